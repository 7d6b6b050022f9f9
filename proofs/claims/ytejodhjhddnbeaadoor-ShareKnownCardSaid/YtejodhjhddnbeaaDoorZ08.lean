/-
  The engine: a symbolic run of a body, proved sound once for any program. Conditions: none.
-/
import Derived.Test.YtejodhjhddnbeaaDoorZ06
import Derived.LoopNIn
import Derived.Laws.IdiomRangeMap
set_option linter.unusedVariables false
set_option linter.unusedSimpArgs false
namespace Go.Proofs.YtejodhjhddnbeaaDoor.E
open Go Go.RowKit
def EvS (G:Pg) (N:Nat) (c:Code) (σ:St) (Q:Ex->St->Prop):Prop :=
 ∀ (C:Base) (a:Act) (w:World) (μ:Mu) (Fz Fy:Nat->Prop) (P:Exit->Act->World->Prop) (rm:Nat),C.N=N->YOk G C->Sim C σ a w μ Fz Fy ->
  (∀ e σ' M' a' w' μ' Fz' Fy',Q e σ'->More C M'->Sim (C.withM M') σ' a' w' μ' Fz' Fy'->P e.toExit a' w')->c.wpIn (FR C.rd) rm G.P P a w
def Wk (σ τ:St):Prop:=(∀ k v,lk k τ.env=some v->lk k σ.env=some v)/\(∀ s b,lk s τ.blk=some b->lk s σ.blk=some b)/\τ.tr.length=σ.tr.length
theorem Wk.refl (σ:St):Wk σ σ:=⟨fun _ _ h=>h,fun _ _ h=>h,rfl⟩
section
variable {G:Pg} {L:Live} {N n:Nat} {D:Drawer} {σ τ:St} {Q:Ex->St->Prop} {x y c:Code}
theorem Sim.wk {C:Base} {a:Act} {w:World} {μ:Mu} {Fz Fy:Nat->Prop} (h:Sim C σ a w μ Fz Fy) (hw:Wk σ τ):Sim C τ a w μ Fz Fy:=h.sub hw.1 hw.2.1 hw.2.2
theorem evS_sub (hw:Wk σ τ) (h:EvS G N c τ Q):EvS G N c σ Q:=fun C a w μ Fz Fy P rm hN hY hS hP=>h C a w μ Fz Fy P rm hN hY (hS.wk hw) hP
theorem evS_reg (hT:TOk G) (hC:CtxOk G) {keep:List Nat} {id:Nat} {ops:Array Oper} {σ1:St} (h:runOps G keep N ops.toList ops.toList σ=some σ1) (hw:Wk σ1 τ) (hq:Q .normal τ):EvS G N (.region id ops false) σ Q:=by
 intro C a w μ Fz Fy P rm hN hY hS hP
 subst hN
 exact wpIn_region_list (runOps_sound hT hC _ hY hS h fun M' a' w' μ' Fz' Fy' hM h'=>hP .normal τ M' a' w' μ' Fz' Fy' hq hM (h'.wk hw))
theorem evS_drw (hT:TOk G) (hC:CtxOk G) (hmix:G.P.follows .mixedOrders=true) {id:Nat} {ops:Array Oper} {pl:Plan} (keep:List Nat) {σ1:St}
  (h3:planOk ops.toList pl=true) (h4:((dsts ops.toList pl.length).all fun d=>decide (d < N))=true) (h5:drawP G keep N ops.toList pl σ=some σ1) (hw:Wk σ1 τ) (hq:Q .normal τ):EvS G N (.region id ops true) σ Q:=by
 intro C a w μ Fz Fy P rm hN hY hS hP
 subst hN
 have hD:=drawOk hT hC hmix [(id,pl)] [(id,(keep,[]))] C.N
 have e:drawT [(id,pl)] G [(id,(keep,[]))] C.N id ops.toList σ=some σ1:=by
  unfold drawT
  simp only [lk,if_true,h3,h4,Bool.and_self,kof]
  exact h5
 exact hD C C.rd rm ops id σ σ1 a w μ Fz Fy P rfl hY e hS fun M' a' w' μ' Fz' Fy' hM h'=>hP .normal τ M' a' w' μ' Fz' Fy' hq hM (h'.wk hw)
theorem evS_seq (h:EvS G N x σ (Then (fun τ=>EvS G N y τ Q) Q)):EvS G N (x.seq y) σ Q:=by
 intro C a w μ Fz Fy P rm hN hY hS hP
 refine wpIn_seq (h C a w μ Fz Fy _ rm hN hY hS fun e σ' M' a' w' μ' Fz' Fy' hq hM h'=>?_)
 cases e with
 | normal=>exact hq (C.withM M') a' w' μ' Fz' Fy' P rm hN (hY.withM M') h' fun e2 σ2 M2 a2 w2 μ2 Fz2 Fy2 hq2 hM2 h2=>hP e2 σ2 M2 a2 w2 μ2 Fz2 Fy2 hq2 (hM.trans hM2) h2
 | exit id=>exact hP (.exit id) σ' M' a' w' μ' Fz' Fy' hq hM h'
 | ret=>exact hP .ret σ' M' a' w' μ' Fz' Fy' hq hM h'
theorem evS_cond {ro b:Bool} {t:Operand} (h:opd σ t=some (.fv ro (.bool b))) (h1:b=true->EvS G N x σ Q) (h2:b=false->EvS G N y σ Q):EvS G N (.cond t x y) σ Q:=by
 intro C a w μ Fz Fy P rm hN hY hS hP
 have hv:=opd_sound hS h
 have hc:a.eval t = .bool b:=by
  generalize a.eval t=u at hv ⊢
  cases hv with
  | fv _ _ _ hv=>cases hv; rfl
 cases b with
 | true=>exact wpIn_cond_true hc (h1 rfl C a w μ Fz Fy P rm hN hY hS hP)
 | false=>exact wpIn_cond_false hc (h2 rfl C a w μ Fz Fy P rm hN hY hS hP)
theorem evS_skip (h:Q .normal σ):EvS G N .skip σ Q:=fun C a w μ Fz Fy P rm hN hY hS hP=>wpIn_skip (hP .normal σ C.M a w μ Fz Fy h (More.refl C) hS)
theorem evS_exit {id:Nat} (h:Q (.exit id) σ):EvS G N (.exit id) σ Q:=fun C a w μ Fz Fy P rm hN hY hS hP=>wpIn_exit (hP (.exit id) σ C.M a w μ Fz Fy h (More.refl C) hS)
theorem evS_ret (h:Q .ret σ):EvS G N .ret σ Q:=fun C a w μ Fz Fy P rm hN hY hS hP=>wpIn_ret (hP .ret σ C.M a w μ Fz Fy h (More.refl C) hS)
theorem evS_block {id:Nat} (h:EvS G N c σ (InBlock id Q)):EvS G N (.block id c) σ Q:=by
 intro C a w μ Fz Fy P rm hN hY hS hP
 refine wpIn_block (h C a w μ Fz Fy _ rm hN hY hS fun e σ' M' a' w' μ' Fz' Fy' hq hM h'=>?_)
 cases e with
 | normal=>exact hP .normal σ' M' a' w' μ' Fz' Fy' hq hM h'
 | exit j =>
  simp only [InBlock] at hq
  by_cases hj:j=id
  ·rw [if_pos hj] at hq
   simp only [Ex.toExit,Exit.inBlock,hj,if_true]
   exact hP .normal σ' M' a' w' μ' Fz' Fy' hq hM h'
  ·rw [if_neg hj] at hq
   simp only [Ex.toExit,Exit.inBlock,hj,if_false]
   exact hP (.exit j) σ' M' a' w' μ' Fz' Fy' hq hM h'
 | ret=>exact hP .ret σ' M' a' w' μ' Fz' Fy' hq hM h'
theorem evS_loop {α:Type} (S:α->St) (r:α->Nat) (I:α->Prop) (x0:α) (h0:Wk σ (S x0)) (hI:I x0)
  (h:∀ x,I x->EvS G N c (S x) (Then (fun σ'=>∃ y,Wk σ' (S y)/\I y/\r y < r x) Q)):EvS G N (.loop c) σ Q:=by
 refine evS_sub h0 ?_
 intro C a w μ Fz Fy P rm hN hY hS hP
 refine wpIn_loop_rounds (r x0+1) ?_
 have key:∀ m x,I x->r x < m->∀ {C':Base} {a:Act} {w:World} {μ:Mu} {Fz Fy:Nat->Prop},C'.rd=C.rd->C'.N=N->YOk G C'->(∀ e σ' M' a' w' μ' Fz' Fy',Q e σ'->More C' M'->Sim (C'.withM M') σ' a' w' μ' Fz' Fy'->P e.toExit a' w')->Sim C' (S x) a w μ Fz Fy->Code.roundsIn (FR C.rd) rm G.P c P m a w:=by
  intro m
  induction m with
  | zero=>intro x _ hm; omega
  | succ m ih =>
   intro x hx hm C' a w μ Fz Fy e1 e2 hY' hP' hS'
   rw [roundsIn_succ,<-e1]
   refine h x hx C' a w μ Fz Fy _ rm e2 hY' hS' fun e σ' M' a' w' μ' Fz' Fy' hq hM h'=>?_
   cases e with
   | normal =>
    obtain ⟨y,hy1,hy2,hy3⟩:=hq
    show Code.roundsIn (FR C'.rd) rm G.P c P m a' w'
    rw [e1]
    exact ih y hy2 (by omega) (C':=C'.withM M') e1 e2 (hY'.withM M') (fun e2 σ2 M2 a2 w2 μ2 Fz2 Fy2 hq2 hM2 h2=>hP' e2 σ2 M2 a2 w2 μ2 Fz2 Fy2 hq2 (hM.trans hM2) h2) (h'.wk hy1)
   | exit id=>exact hP' (.exit id) σ' M' a' w' μ' Fz' Fy' hq hM h'
   | ret=>exact hP' .ret σ' M' a' w' μ' Fz' Fy' hq hM h'
 exact key _ x0 hI (Nat.lt_succ_self _) rfl hN hY hP hS
theorem run_next_at {P:Program} (w:World) (ty:TypeId) (b bm since c0:Nat) (seen:Array Nat) (es:Array MapEntry) (clock:Nat) (hb:w.heap[b]? = some (.mapIter (some bm) since seen c0)) (hm:w.heap[bm]? = some (.map es clock)) (hold:∀ x∈es.toList,x.born < since) (hsc:since<=c0) :
  ((leftOf es seen).size=0/\(Instr.next (.pointer (some ⟨b,0,none⟩)) false ty).run P w = .ok (.tuple #[.bool false]) w) ∨
  ∃ e∈(leftOf es seen).toList,∃ w1:World,(w1=w\/w1=w.drew)/\(Instr.next (.pointer (some ⟨b,0,none⟩)) false ty).run P w = .ok (.tuple #[.bool true,e.key,e.val]) (w1.putObj b (.mapIter (some bm) since (seen.push e.born) clock)):=by
 simp only [Instr.next,getObj,Sem.run_bind,Sem.run,hb,hm,Result.andThen,next_test_false seen es since c0 hold hsc,Bool.false_eq_true,if_false]
 unfold leftOf
 have hmem:∀ x∈(Array.filter (fun e=>!seen.contains e.born) es).toList,x.born < since:=fun x hx=>hold x (by simp at hx ⊢; exact hx.1)
 generalize Array.filter (fun e=>!seen.contains e.born) es=L at hmem ⊢
 have e1:L.filter (fun x=>decide (x.born < since))=L:=Array.filter_eq_self.2 (fun x hx=>by simpa using hmem x (by simpa using hx))
 have e2:L.filter (fun x=>decide (x.born>=since))=#[]:=by
  rw [Array.filter_eq_empty_iff]
  intro x hx
  have:=hmem x (by simpa using hx)
  simp
  omega
 simp only [e1,e2,Array.append_empty]
 by_cases h0:L.size=0
 ·left
  have:L=#[]:=Array.eq_empty_of_size_eq_zero h0
  subst this
  refine ⟨rfl,?_⟩
  simp [choose,Sem.run,Question.forced]
 ·right
  have hne:L.isEmpty=false:=by simp [Array.isEmpty,h0]
  simp only [hne,Bool.false_eq_true,if_false,Array.empty_append,Array.size_map]
  have hch:∃ (j:Nat) (w1:World),j < L.size/\(w1=w\/w1=w.drew)/\(choose (Question.mapNext L.size)).run P w = .ok j w1:=by
   by_cases hf:L.size<=1
   ·exact ⟨0,w,by omega,.inl rfl,by simp [choose,Sem.run,Question.forced,hf]⟩
   ·exact ⟨_,w.drew,Nat.mod_lt _ (by omega),.inr rfl,by
     simp only [choose,Sem.run,Question.forced,decide_eq_true_eq,hf,if_false,Question.cut]
     rfl⟩
  obtain ⟨j,w1,hj,hal,hrun⟩:=hch
  refine ⟨L[j],by simp,w1,hal,?_⟩
  have hb1:w1.heap[b]? = some (.mapIter (some bm) since seen c0):=by rcases hal with rfl | rfl<;>exact hb
  have hset:∀ o':Obj,(setObj b o').run P w1 = .ok () (w1.putObj b o'):=fun o'=>by
   simp only [setObj,Sem.run,hb1]
   rfl
  simp only [hrun,Array.getElem?_map,Array.getElem?_eq_getElem hj,Option.map_some,Sem.run_bind,hset,Result.andThen]
  rfl
theorem setIt_stays {C:Base} {a:Act} {w:World} {μ:Mu} {Fz Fy:Nat->Prop} (h:Sim C σ a w μ Fz Fy) {s b:Nat} (hs:lk s σ.blk≠none) (hm:μ s=some (b,0)) {o o':Obj} (hh:w.heap[b]? = some o) (hc:o.isCells=false) :
  Stays C (σ.drop s) w (w.putObj b o') μ Fy:=by
 have hlive:=h.live s hs b 0 hm
 have hother:∀ r,r≠b->(w.putObj b o').heap[r]? = w.heap[r]?:=fun r hr=>World.putObj_heap_other hr
 have hno:∀ x e fr,o≠.cells x e fr:=fun x e fr e'=>by subst e'; cases hc
 refine { keeps:=fun r x e' fr hx=>⟨x,(hother r (fun e=>by subst e; rw [hh] at hx; simp only [Option.some.injEq] at hx; exact hno _ _ _ hx)).trans hx,rfl⟩,fixed:=fun r hr=>hother r (fun e=>hlive.2.2 (e▸hr)),own:=fun t ht r base' hr=>hother r (fun e=>?_),below:=?_,size:=by simp,rest:=fun r hr=>hother r (fun e=>(h.fm r hr).2.2 s hs 0 (e▸hm)),drawn:=Nat.le_refl _ }
 ·simp only [St.drop,lk_rm] at ht
  by_cases et:t=s
  ·simp [et] at ht
  ·simp only [et,if_false] at ht
   exact h.inj t s ht hs et r base' b 0 hr hm e
 ·have hB:=h.below
  refine ⟨hB.os,hB.tape,hB.output,by simpa using hB.size,fun q hq hx=>(hother q (fun e=>?_)).trans (hB.block q hq hx),fun q x e fr hx hq hc=>?_,hB.drawn⟩
  ·subst e
   rcases hlive.1 with k1 | k1
   ·omega
   ·exact hx k1
  ·obtain ⟨x',e1,e2⟩:=hB.kept q x e fr hx hq hc
   exact ⟨x',(hother q (fun e=>by subst e; rw [hh] at e1; simp only [Option.some.injEq] at e1; exact hno _ _ _ e1)).trans e1,e2⟩
theorem evS_next (hT:TOk G) (hC:CtxOk G) {keep:List Nat} {id t d s m nn:Nat} {ops:Array Oper} {o1:Oper} {rest:List Oper} {seen:List Nat} {es:List (FV×V)} (ho:ops.toList=o1 :: rest) (h1:o1.dst=some d) (h2:o1.guard=none) (h3:o1.op = .next (.tmp t) false) (hd:d < N)
  (he:opd σ (.tmp t)=some (.ptr s 0)) (hs:lk s σ.blk=some (.mit (.map m) nn nn seen)) (hm:lk m σ.blk=some (.mp es)) (hn:nn=es.length)
  (hf:(∀ i,i < es.length->i∈seen)->∃ σ1 τ,runOps G keep N ops.toList rest { σ with env:=put d (.tup [.fv false (.bool false)]) σ.env }=some σ1/\Wk σ1 τ/\Q .normal τ)
  (ht:∀ i,i < es.length->i∉seen->∃ σ1 τ,runOps G keep N ops.toList rest { σ with env:=put d (.tup [.fv false (.bool true),.top,.top]) σ.env,blk:=put s (.mit (.map m) nn nn (seen++[i])) σ.blk }=some σ1/\Wk σ1 τ/\Q .normal τ) :
  EvS G N (.region id ops false) σ Q:=by
 intro C a w μ Fz Fy P rm hN hY hS hP
 subst hN
 refine wpIn_region_list ?_
 have hgo:∀ {τ1:St} {a':Act} {w':World} {μ':Mu} {Fz' Fy':Nat->Prop},Sim C τ1 a' w' μ' Fz' Fy'->(∃ σ1 τ,runOps G keep C.N ops.toList rest τ1=some σ1/\Wk σ1 τ/\Q .normal τ)->wpListIn (FR C.rd) rm G.P ops P rest a' w':=fun h' ⟨σ1,τ,k1,k2,k3⟩ =>
  runOps_sound hT hC rest hY h' k1 fun M' a' w' μ' Fz' Fy' hM h''=>hP .normal τ M' a' w' μ' Fz' Fy' k3 hM (h''.wk k2)
 have hv:=opd_sound hS he
 have hsne:lk s σ.blk≠none:=by simp [hs]
 have hmne:lk m σ.blk≠none:=by simp [hm]
 have hBs:=hS.blk s _ hs
 have hBm:=hS.blk m _ hm
 cases hBs with
 | mit _ _ _ _ b x hmu hh hrep =>
 cases hBm with
 | mp _ bm c hmm hhm hcc hrr =>
 have hxm:x=some bm:=by
  cases hrep with
  | mapx _ _ hx=>exact absurd hx (by simp [shs,hm])
  | map _ b' base' hm' =>
   rw [hmm] at hm'
   simp only [Option.some.injEq,Prod.mk.injEq] at hm'
   rw [hm'.1]
 subst hxm
 have hptr:a.eval (.tmp t) = .pointer (some ⟨b,0,none⟩):=by
  generalize a.eval (.tmp t)=u at hv ⊢
  cases hv with
  | ptrx _ _ _ hx=>exact absurd hx (by simp [shs,hs])
  | ptr _ _ b' base' hm' =>
   rw [hmu] at hm'
   simp only [Option.some.injEq,Prod.mk.injEq] at hm'
   obtain ⟨rfl,rfl⟩:=hm'
   rfl
 have hborn:∀ (j:Nat) (e:MapEntry),c[j]? = some e->e.born=j/\j < es.length:=fun j e hj=>by
  have hjl:j < es.length:=by rw [<-hcc]; exact (Array.getElem?_eq_some_iff.1 hj).1
  obtain ⟨m',g1,g0,_⟩:=hrr j _ (List.getElem?_eq_getElem hjl)
  rw [hj] at g1
  simp only [Option.some.injEq] at g1
  subst g1; exact ⟨g0,hjl⟩
 have hold:∀ y∈c.toList,y.born < nn:=fun y hy=>by
  obtain ⟨j,hj,rfl⟩:=List.mem_iff_getElem.1 hy
  have:=hborn j c.toList[j] (by rw [<-Array.getElem?_toList,List.getElem?_eq_getElem hj])
  omega
 rw [ho]
 unfold wpListIn
 have hgu:guardA ops.toList σ o1=some true:=by simp [guardA,h2]
 rw [if_pos (guardA_sound hS hgu)]
 have hrunO:∀ {u:Value} {w':World},(Instr.next (.pointer (some ⟨b,0,none⟩)) false o1.type).run G.P w = .ok u w'->(execOp a.eval o1).run G.P w = .ok (.value u) w':=fun hr=>by
  unfold execOp
  simp only [h3,hptr,Sem.run_bind,hr,Result.andThen_ok,Sem.run_pure]
 refine oper_in (fun cc e=>by rw [h3] at e; cases e) ?_
 rcases run_next_at (P:=G.P) w o1.type b bm nn nn seen.toArray c es.length hh hhm hold (Nat.le_refl _) with ⟨k1,k2⟩ | ⟨e,he1,w1,hw1,k2⟩
 ·unfold Oper.wp
  rw [hrunO k2]
  simp only [Oper.upon,h1]
  refine hgo (hS.set d hd (.tup [.fv false (.bool false)]) _ (.tup _ _ rfl fun j y hj=>?_)) (hf fun i hi=>?_)
  ·match j,hj with
   | 0,hj=>simp only [List.getElem?_cons_zero,Option.some.injEq] at hj; subst hj; exact .fv _ _ _ (.bool _)
  ·refine Classical.byContradiction fun hx=>?_
   have hci:i < c.size:=by omega
   have hb:=hborn i c[i] (Array.getElem?_eq_getElem hci)
   have:c[i]∈leftOf c seen.toArray:=by
    unfold leftOf
    rw [Array.mem_filter]
    exact ⟨Array.getElem_mem hci,by simp [hb.1,hx]⟩
   rw [Array.eq_empty_of_size_eq_zero k1] at this
   simp at this
 ·have hme:∃ j:Nat,c[j]? = some e/\e.born∉seen:=by
   unfold leftOf at he1
   rw [Array.mem_toList_iff,Array.mem_filter] at he1
   obtain ⟨g1,g2⟩:=he1
   obtain ⟨j,hj,rfl⟩:=Array.mem_iff_getElem.1 g1
   exact ⟨j,Array.getElem?_eq_getElem hj,by simpa using g2⟩
  obtain ⟨j,hj,hns⟩:=hme
  obtain ⟨hjb,hjl⟩:=hborn j e hj
  have hw1':w1.heap=w.heap/\w1.os=w.os/\w1.tape=w.tape/\w1.output=w.output/\w.drawn<=w1.drawn:=by
   rcases hw1 with rfl | rfl
   ·exact ⟨rfl,rfl,rfl,rfl,Nat.le_refl _⟩
   ·exact ⟨rfl,rfl,rfl,rfl,Nat.le_succ _⟩
  obtain ⟨q1,q2,q3,q4,q5⟩:=hw1'
  have hst:Stays C σ w w1 μ Fy:=Stays.of_below hS ⟨q2,q3,q4,by rw [q1]; exact Nat.le_refl _,fun _ _=>by rw [q1],q5⟩
  have hS1:=hS.stays hst
  have hh1:w1.heap[b]? = some (.mapIter (some bm) nn seen.toArray nn):=by rw [q1]; exact hh
  have hS2:=hS1.upd' (B1:=.mit (.map m) nn nn (seen++[j])) hs rfl (setIt_stays hS1 hsne hmu hh1 (o':=.mapIter (some bm) nn (seen.toArray.push e.born) es.length) rfl) (by
   refine .mit _ _ _ _ b (some bm) hmu ?_ ?_
   ·rw [World.putObj_heap_same (Array.getElem?_eq_some_iff.1 hh1).1,hjb,hn]
    simp
   ·exact .map m bm 0 hmm)
  unfold Oper.wp
  rw [hrunO k2]
  simp only [Oper.upon,h1]
  refine hgo (hS2.set d hd (.tup [.fv false (.bool true),.top,.top]) _ (.tup _ _ rfl fun i y hi=>?_)) (ht j hjl (hjb▸hns))
  match i,hi with
  | 0,hi=>simp only [List.getElem?_cons_zero,Option.some.injEq] at hi; subst hi; exact .fv _ _ _ (.bool _)
  | 1,hi=>simp only [List.getElem?_cons_succ,List.getElem?_cons_zero,Option.some.injEq] at hi; subst hi; exact .top _
  | 2,hi=>simp only [List.getElem?_cons_succ,List.getElem?_cons_zero,Option.some.injEq] at hi; subst hi; exact .top _
end
theorem valid_of_evS {G:Pg} (hT:TOk G) (hC:CtxOk G) {k:FuncId} {fn:Func} (hf:G.P.funcs[k]? = some fn)
  {args:List (Bool×FV)} {res:List TV} (hargs:args.length<=fn.ntmps/\fn.ntmps<=90000)
  (h:∃ c,fn.body=some c/\EvS G fn.ntmps c (initSt args) (fun e σ=>(e = .normal\/e = .ret)/\∃ vs,slotsA G σ fn.results.toList=some vs/\retsA σ [] vs=some res)) (hyl:G.yl=none:=by rfl):Valid G.P k args res:=by
 obtain ⟨c,hb,h⟩:=h
 intro w Fz Fy us hzy hyl' hlen hrep hgl
 refine calls_of_marks hf hb ?_
 let C:Base:={ N:=fn.ntmps,B:=w.heap.size,w0:=w,Fz0:=Fz,X:=noX }
 have hinit:Sim C (initSt args) { tmps:=us.toArray++Array.replicate (fn.ntmps-us.toArray.size) undef,defers:=[] } w (fun _=>none) Fz Fy:=by
  refine { defers:=fun d hd=>by simp at hd,dist:=.nil,size:=?_,small:=hargs.2,env:=fun j v hj=>⟨trivial,?_⟩,blk:=fun s b hb=>by simp [initSt,lk] at hb,live:=fun s hs=>by simp [initSt,lk] at hs,inj:=fun s t hs=>by simp [initSt,lk] at hs,zy:=hzy,yl:=hyl',gl:=hgl,z0:=fun b hb=>.inl hb,y0:=fun b hb=>.inl trivial,below:=.of_below (Below.refl _ _),big:=Nat.le_refl _,fm:=fun _ x=>x.elim,yd:=fun _ e=>(by cases e),mm:=fun _ x=>x.elim,lp:=fun _ e=>(by cases e) }
  ·simp [hlen,C]; omega
  ·simp only [initSt,lk_initEnv,Nat.zero_le,if_true,Nat.sub_zero,Option.map_eq_some_iff] at hj
   obtain ⟨p,hp,rfl⟩:=hj
   have hjl:j < args.length:=(List.getElem?_eq_some_iff.1 hp).1
   obtain ⟨u,hu,hru⟩:=hrep j p hp
   refine .fv _ _ _ ?_
   have:C.get { tmps:=us.toArray++Array.replicate (fn.ntmps-us.toArray.size) undef,defers:=[] } j=u:=by
    have hju:j < us.length:=by omega
    rw [List.getElem?_eq_getElem hju] at hu
    simp only [Option.some.injEq] at hu
    rw [Base.get,if_pos (by unfold GH; omega)]
    simp [Array.getD_eq_getD_getElem?,Array.getElem?_append,hju,hu]
   rw [this]; exact hru
 refine h C _ w _ Fz Fy _ 0 rfl (yok_none hyl) hinit fun e σ' M' a' w' μ' Fz' Fy' hqq hM h'=>?_
 obtain ⟨he,vs,hs,hr⟩:=hqq
 have hbe:=body_end (C:=C.withM M') hT (fn:=fn) rfl rfl h' hs hr (n:=0)
 have hq:LeavesInM (FR none) 0 G.P fn a'.tmps (fun e w'=>∃ v us m,e = .returned v/\Below w.heap.size w w'/\Res noX Fz w w' res v us m) a'.defers .returning w':=by
  have e:(fun (e:Ending) w'=>∃ v us m,e = .returned v/\BelowX (C.withM M') w'/\Res (C.withM M').X (C.withM M').Fz0 (C.withM M').w0 w' res v us m)=fun e w'=>∃ v us m,e = .returned v/\Below w.heap.size w w'/\Res noX Fz w w' res v us m:=by
   funext e w'
   apply propext
   constructor
   ·rintro ⟨v,us,m,h1,h2,h3⟩
    exact ⟨v,us,m,h1,h2.below fun _ hx=>hx,h3⟩
   ·rintro ⟨v,us,m,h1,h2,h3⟩
    exact ⟨v,us,m,h1,.of_below h2,h3⟩
  rw [<-e]; exact hbe
 rcases he with rfl | rfl<;>exact hq
def EvL (G:Pg) (N:Nat) (ops:Array Oper) (l:List Oper) (σ:St) (Q:Ex->St->Prop):Prop :=
 ∀ (C:Base) (a:Act) (w:World) (μ:Mu) (Fz Fy:Nat->Prop) (P:Exit->Act->World->Prop) (rm:Nat),C.N=N->YOk G C->Sim C σ a w μ Fz Fy ->
  (∀ e σ' M' a' w' μ' Fz' Fy',Q e σ'->More C M'->Sim (C.withM M') σ' a' w' μ' Fz' Fy'->P e.toExit a' w')->wpListIn (FR C.rd) rm G.P ops P l a w
section
variable {G:Pg} {N:Nat} {σ τ:St} {Q Q':Ex->St->Prop} {x y c:Code} {ops:Array Oper} {l:List Oper}
theorem evL_nil (h:Q .normal σ):EvL G N ops [] σ Q:=fun C a w μ Fz Fy P rm hN hY hS hP=>hP .normal σ C.M a w μ Fz Fy h (More.refl C) hS
theorem evL_step (hT:TOk G) (hC:CtxOk G) (keep:List Nat) {o:Oper} {σ':St} (hg:guardA ops.toList σ o=some true) (hs:stepX G keep N σ o=some σ') (h:EvL G N ops l σ' Q):EvL G N ops (o :: l) σ Q:=by
 intro C a w μ Fz Fy P rm hN hY hS hP
 subst hN
 unfold wpListIn
 rw [if_pos (guardA_sound hS hg)]
 exact stepX_sound hT hC hY hS hs fun M' a' w' μ' Fz' Fy' hM h'=>h (C.withM M') a' w' μ' Fz' Fy' P rm rfl (hY.withM M') h' fun e σ2 M2 a2 w2 μ2 Fz2 Fy2 hq hM2 h2=>hP e σ2 M2 a2 w2 μ2 Fz2 Fy2 hq (hM.trans hM2) h2
theorem evS_list {id:Nat} (h:EvL G N ops ops.toList σ Q):EvS G N (.region id ops false) σ Q:=fun C a w μ Fz Fy P rm hN hY hS hP=>wpIn_region_list (h C a w μ Fz Fy P rm hN hY hS hP)
theorem evL_isnil (hT:TOk G) {o:Oper} {d t e sz:Nat} {ti1 ti2:Nat} {z:List FV} {xo:Operand} {rt:Nat} {ro c:Bool} {xs:List FV} (hd:o.dst=some d) (hg:o.guard=none) (ho:o.op = .binOp .eql t xo (.const (.slice none 0 0)) rt) (ht:lk t G.tbl=some ⟨ti1,ti2,z,.slice e⟩) (hN:d < N)
  (hx:opd σ xo=some (.fv ro (.sl c sz xs))) (h:∀ b:Bool,(xs≠[]->b=false)->EvL G N ops l { σ with env:=put d (.fv false (.bool b)) σ.env } Q):EvL G N ops (o :: l) σ Q:=by
 intro C a w μ Fz Fy P rm hN' hY hS hP
 subst hN'
 obtain ⟨td,hd1,hd2⟩:=(hT.tt _ _ ht).under
 simp only [KindIs] at hd2; subst hd2
 have hv:=opd_sound hS hx
 have hguard:guardA ops.toList σ o=some true:=by simp [guardA,hg]
 unfold wpListIn
 rw [if_pos (guardA_sound hS hguard)]
 refine oper_in (fun cc e=>by rw [ho] at e; cases e) ?_
 obtain ⟨ad,len,cap,hva,hb⟩:∃ ad len cap,a.eval xo = .slice ad len cap/\(xs≠[]->ad.isNone=false):=by
  generalize a.eval xo=u at hv
  cases hv with
  | fv _ _ _ hv =>
  cases hv with
  | sl0 _ _ ad cap hc=>exact ⟨ad,0,cap,rfl,fun h=>absurd rfl h⟩
  | sl _ _ _ b o len cap us=>exact ⟨_,len,cap,rfl,fun _=>rfl⟩
 have he:(Op.equal t (.slice ad len cap) (.slice none 0 0)).run G.P w = .ok ad.isNone w:=by
  unfold Op.equal
  rw [show Op.maxDepth=9999+1 from rfl,Op.equalIn]
  cases ad<;>simp [underlying,hd1]
 have hrun:(execOp a.eval o).run G.P w = .ok (.value (.bool ad.isNone)) w:=by
  unfold execOp
  have hcn:a.eval (.const (.slice none 0 0)) = .slice none 0 0:=rfl
  simp only [ho,hva,hcn,Sem.run_bind]
  simp [eqGuard,binOp,he,Sem.run_bind]
 unfold Oper.wp
 rw [hrun]
 simp only [Oper.upon,hd]
 exact h ad.isNone hb C _ w μ Fz Fy P rm rfl hY (hS.set d hN _ _ (.fv _ _ _ (.bool _))) hP
theorem EvS.mono (h:EvS G N c σ Q) (hq:∀ e σ',Q e σ'->Q' e σ'):EvS G N c σ Q':=fun C a w μ Fz Fy P rm hN hY hS hP=>h C a w μ Fz Fy P rm hN hY hS fun e σ' M' a' w' μ' Fz' Fy' hx=>hP e σ' M' a' w' μ' Fz' Fy' (hq e σ' hx)
theorem evS_join (τ:St) (h1:EvS G N x σ (fun e σ'=>e = .normal/\σ'=τ)) (h2:EvS G N y τ Q):EvS G N (x.seq y) σ Q :=
 evS_seq (h1.mono fun e σ' h=>by obtain ⟨rfl,rfl⟩:=h; exact h2)
def keepS (ks bs:List Nat) (σ:St):St:={ env:=kpIf (fun k=>ks.contains k) σ.env,blk:=kpIf (fun s=>bs.contains s||Nat.ble 5000000 s) σ.blk,tr:=σ.tr }
def keepO (ks bs:List Nat):Option St->Option St
 | some σ=>some (keepS ks bs σ)
 | none=>none
theorem wk_keep (ks bs:List Nat) (σ:St):Wk σ (keepS ks bs σ):=⟨fun _ _ h=>lk_kpIf h,fun _ _ h=>lk_kpIf h,rfl⟩
theorem keepO_some {ks bs:List Nat} {r:Option St} (h:keepO ks bs r=some τ):∃ σ1,r=some σ1/\Wk σ1 τ:=by
 cases r with
 | none=>simp [keepO] at h
 | some σ1=>exact ⟨σ1,rfl,by simp only [keepO,Option.some.injEq] at h; subst h; exact wk_keep _ _ _⟩
theorem wk_of {ks bs:List Nat} (h:keepS ks bs σ=τ):Wk σ τ:=h▸wk_keep ks bs σ
theorem evS_keep (ks bs:List Nat) (h:keepS ks bs σ=τ) (hq:EvS G N c τ Q):EvS G N c σ Q:=evS_sub (wk_of h) hq
theorem evS_k (hT:TOk G) (hC:CtxOk G) (ks bs:List Nat) {id:Nat} (h:keepO ks bs (runOps G ks N ops.toList ops.toList σ)=some τ) (hq:Q .normal τ):EvS G N (.region id ops false) σ Q:=by
 obtain ⟨σ1,h1,h2⟩:=keepO_some h
 exact evS_reg hT hC h1 h2 hq
theorem evS_nextk (hT:TOk G) (hC:CtxOk G) (ks bs:List Nat) {id t d s m nn:Nat} {o1:Oper} {rest:List Oper} {seen:List Nat} {es:List (FV×V)} (ho:ops.toList=o1 :: rest) (h1:o1.dst=some d) (h2:o1.guard=none) (h3:o1.op = .next (.tmp t) false) (hd:d < N)
  (he:opd σ (.tmp t)=some (.ptr s 0)) (hs:lk s σ.blk=some (.mit (.map m) nn nn seen)) (hm:lk m σ.blk=some (.mp es)) (hn:nn=es.length)
  (hf:(∀ i,i < es.length->i∈seen)->∃ τ,keepO ks bs (runOps G ks N ops.toList rest { σ with env:=put d (.tup [.fv false (.bool false)]) σ.env })=some τ/\Q .normal τ)
  (ht:∀ i,i < es.length->i∉seen->∃ τ,keepO ks bs (runOps G ks N ops.toList rest { σ with env:=put d (.tup [.fv false (.bool true),.top,.top]) σ.env,blk:=put s (.mit (.map m) nn nn (seen++[i])) σ.blk })=some τ/\Q .normal τ) :
  EvS G N (.region id ops false) σ Q:=by
 refine evS_next (keep:=ks) hT hC ho h1 h2 h3 hd he hs hm hn (fun h=>?_) (fun i hi hx=>?_)
 ·obtain ⟨τ,k1,k2⟩:=hf h
  obtain ⟨σ1,g1,g2⟩:=keepO_some k1
  exact ⟨σ1,τ,g1,g2,k2⟩
 ·obtain ⟨τ,k1,k2⟩:=ht i hi hx
  obtain ⟨σ1,g1,g2⟩:=keepO_some k1
  exact ⟨σ1,τ,g1,g2,k2⟩
theorem evS_kd (hT:TOk G) (hC:CtxOk G) (hmix:G.P.follows .mixedOrders=true) (pl:Plan) (ks bs:List Nat) {id:Nat} (h3:planOk ops.toList pl=true) (h4:((dsts ops.toList pl.length).all fun d=>decide (d < N))=true) (h:keepO ks bs (drawP G ks N ops.toList pl σ)=some τ) (hq:Q .normal τ):EvS G N (.region id ops true) σ Q:=by
 obtain ⟨σ1,h1,h2⟩:=keepO_some h
 exact evS_drw hT hC hmix ks h3 h4 h1 h2 hq
end
end Go.Proofs.YtejodhjhddnbeaaDoor.E
