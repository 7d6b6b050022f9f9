/-
  The engine: a symbolic run of a body, proved sound once for any program. Conditions: none.
-/
import Derived.Test.YtejodhjhddnbeaaDoorZ06
import Derived.WalkKit
import Derived.ProofKit
import Derived.OpenShut
import Derived.JoinedCond
import Derived.ReadAgain
import Derived.DataShut
import Derived.Below
import Derived.Carry
import Derived.SizedLaws
import Derived.Shelf.SlSortCmp.NoneTotal
set_option linter.unusedVariables false
set_option linter.unusedSimpArgs false
namespace Go.Proofs.YtejodhjhddnbeaaDoor.E
open Go Go.RowKit
section
variable {G:Pg} {L:Live} {N n:Nat} {D:Drawer} {σ:St} {Q:Ex->St->Prop}
def RoundQ (ok:Prop) (J:St->Prop) (Q:Ex->St->Prop):Ex->St->Prop
 | .normal,σ=>J σ.leave
 | e,σ=>ok/\Q e σ.leave
@[simp] theorem roundQ_normal {ok:Prop} {J:St->Prop} {Q:Ex->St->Prop} {σ:St}:RoundQ ok J Q .normal σ=J σ.leave:=rfl
@[simp] theorem roundQ_ret {ok:Prop} {J:St->Prop} {Q:Ex->St->Prop} {σ:St}:RoundQ ok J Q .ret σ=(ok/\Q .ret σ.leave):=rfl
@[simp] theorem roundQ_exit {ok:Prop} {J:St->Prop} {Q:Ex->St->Prop} {σ:St} {i:Nat}:RoundQ ok J Q (.exit i) σ=(ok/\Q (.exit i) σ.leave):=rfl
end
def step1 (G:Pg) (keep:List Nat) (N:Nat) (ops:Array Oper) (σ:St) (o:Oper):Option St :=
 match guardA ops.toList σ o with
 | some true=>stepX G keep N σ o
 | some false=>some (skipS N σ o.dst)
 | none=>none
def allR (G:Pg) (keep:List Nat) (N:Nat) (ops:Array Oper) (σ':St):Nat->Array Bool->St->Prop
 | 0,listed,σ=>Region.ready .any ops listed=[]/\σ=σ'
 | f+1,listed,σ=>(Region.ready .any ops listed=[]->σ=σ')/\∀ i∈Region.ready .any ops listed,∃ o τ,ops[i]? = some o/\step1 G keep N ops σ o=some τ/\allR G keep N ops σ' f (listed.setIfInBounds i true) τ
section
variable {G:Pg} {keep:List Nat} {N:Nat} {ops:Array Oper} {σ':St}
def allL (P:Nat->Prop):List Nat->Prop
 | []=>True
 | i :: r=>P i/\allL P r
theorem allL_mem {P:Nat->Prop}:∀ {l:List Nat},allL P l->∀ i∈l,P i
 | [],_,i,h=>by cases h
 | j :: r,h,i,hi=>by
  rcases List.mem_cons.mp hi with rfl | hi
  ·exact h.1
  ·exact allL_mem h.2 i hi
theorem allR_step {f:Nat} {listed:Array Bool} {σ:St} {l:List Nat} (hr:Region.ready .any ops listed=l) (hl:l≠[]) (h:allL (fun i=>∃ o τ,ops[i]? = some o/\step1 G keep N ops σ o=some τ/\allR G keep N ops σ' f (listed.setIfInBounds i true) τ) l):allR G keep N ops σ' (f+1) listed σ :=
 ⟨fun e=>absurd (hr.symm.trans e) hl,fun i hi=>allL_mem h i (hr▸hi)⟩
theorem allR_one:∀ {f:Nat} {listed:Array Bool} {σ σ1 σ2:St},allR G keep N ops σ1 f listed σ->allR G keep N ops σ2 f listed σ->σ1=σ2
 | 0,_,_,_,_,h1,h2=>by rw [<-h1.2,<-h2.2]
 | f+1,listed,σ,σ1,σ2,h1,h2=>by
  cases hr:Region.ready .any ops listed with
  | nil=>rw [<-h1.1 hr,<-h2.1 hr]
  | cons i l =>
   obtain ⟨o,τ,e1,e2,e3⟩:=h1.2 i (by rw [hr]; exact List.mem_cons_self)
   obtain ⟨o',τ',g1,g2,g3⟩:=h2.2 i (by rw [hr]; exact List.mem_cons_self)
   rw [e1] at g1
   simp only [Option.some.injEq] at g1
   subst g1
   rw [e2] at g2
   simp only [Option.some.injEq] at g2
   subst g2
   exact allR_one e3 g3
theorem all_sound (hT:TOk G) (hC:CtxOk G) {Q:Exit->Act->World->Prop} {ro:Option Nat} {rm:Nat}:∀ (fuel:Nat) (listed:Array Bool) {C:Base} {σ:St} {a:Act} {w:World} {μ:Mu} {Fz Fy:Nat->Prop},YOk G C->(∀ M' a' w' μ' Fz' Fy',More C M'->Sim (C.withM M') σ' a' w' μ' Fz' Fy'->Q .normal a' w') ->
  Sim C σ a w μ Fz Fy->allR G keep C.N ops σ' fuel listed σ->wpAnyIn (FR ro) rm G.P .any ops Q fuel listed a w
 | 0,listed,C,σ,a,w,μ,Fz,Fy,hY,hQ,h,hx=>⟨hx.1,hQ C.M _ _ _ _ _ (More.refl C) (hx.2▸h)⟩
 | fuel+1,listed,C,σ,a,w,μ,Fz,Fy,hY,hQ,h,hx=>by
  refine ⟨fun hrd=>hQ C.M _ _ _ _ _ (More.refl C) (hx.1 hrd▸h),fun i hi=>?_⟩
  obtain ⟨o,τ,ho,hs,hr⟩:=hx.2 i hi
  have key:∀ {M1:Nat->Prop} {a1:Act} {w1:World} {μ1:Mu} {Fz1 Fy1:Nat->Prop},More C M1->Sim (C.withM M1) τ a1 w1 μ1 Fz1 Fy1->wpAnyIn (FR ro) rm G.P .any ops Q fuel (listed.setIfInBounds i true) a1 w1 :=
   fun {M1} _ _ _ _ _ hM h1'=>all_sound hT hC fuel _ (hY.withM M1) (fun M' a' w' μ' Fz' Fy' hM' h'=>hQ M' _ _ _ _ _ (hM.trans hM') h') h1' hr
  unfold wpOpIn
  simp only [ho]
  unfold step1 at hs
  split at hs
  ·rename_i hg
   rw [if_pos (guardA_sound h hg)]
   exact stepX_sound hT hC hY h hs fun M' a' w' μ' Fz' Fy' hM h'=>key hM h'
  ·rename_i hg
   simp only [Option.some.injEq] at hs
   subst hs
   rw [if_neg (by simp [guardA_sound h hg])]
   exact ⟨fun _ _=>trivial,key (M1:=C.M) (More.refl C) (h.skip' o.dst)⟩
  ·cases hs
end
open Classical in
noncomputable def drawC (T:List (Nat×Plan)) (G:Pg) (L:Live) (N:Nat):Drawer:=fun id ops σ =>
 match lk id T with
 | some _=>drawT T G L N id ops σ
 | none=>if h:∃ σ',allR G (kof L id).1 N ops.toArray σ' ops.length (Array.replicate ops.length false) σ then some (Classical.choose h) else none
theorem drawOkC {G:Pg} (hT:TOk G) (hC:CtxOk G) (hmix:G.P.follows .mixedOrders=true) (T:List (Nat×Plan)) (L:Live) (N:Nat):DrawOk G N (drawC T G L N):=by
 intro C ro rm ops id σ σ' a w μ Fz Fy Q hCN hY hD h hQ
 unfold drawC at hD
 split at hD
 ·exact drawOk hT hC hmix T L N C ro rm ops id σ σ' a w μ Fz Fy Q hCN hY hD h hQ
 ·subst hCN
  split at hD
  ·rename_i he
   simp only [Option.some.injEq] at hD
   have hs:=Classical.choose_spec he
   rw [hD] at hs
   refine wpIn_region_any hmix ?_
   have hw:Stays C σ w { w with drawn:=w.drawn+1 } μ Fy:=Stays.of_below h ⟨rfl,rfl,rfl,Nat.le_refl _,fun _ _=>rfl,Nat.le_succ _⟩
   simp only [Array.toArray_toList,Array.length_toList] at hs
   exact all_sound hT hC ops.size _ hY hQ (h.stays hw) hs
  ·cases hD
theorem valid_of_evC {G:Pg} (hT:TOk G) (hC:CtxOk G) (hmix:G.P.follows .mixedOrders=true) {k:FuncId} {fn:Func} (hf:G.P.funcs[k]? = some fn) (T:List (Nat×Plan)) (L:Live)
  {args:List (Bool×FV)} {res:List TV} (hargs:args.length<=fn.ntmps/\fn.ntmps<=90000)
  (h:∃ c,fn.body=some c/\Ev (exec G L fn.ntmps (drawC T G L fn.ntmps) R c (initSt args)) (fun e σ=>(e = .normal\/e = .ret)/\∃ vs,slotsA G σ fn.results.toList=some vs/\retsA σ [] vs=some res)) (hyl:G.yl=none:=by rfl):Valid G.P k args res:=by
 obtain ⟨c,hb,hx⟩:=h
 obtain ⟨e,σ,h1,h2,vs,h3,h4⟩:=hx.get
 exact valid_of_exec hT hC hyl hf hb (D:=drawC T G L fn.ntmps) (drawOkC hT hC hmix T L fn.ntmps) R hargs h1 h2 h3 h4
section
variable {G:Pg} {L:Live} {N n id:Nat} {σ σ':St} {Q:Ex->St->Prop} {ops:Array Oper}
theorem ev_drwC {T:List (Nat×Plan)} {pl:Plan} (h2:lk id T=some pl)
  (h3:planOk ops.toList pl=true) (h4:((dsts ops.toList pl.length).all fun d=>decide (d < N))=true) (h5:finO (kof L id) (drawP G (kof L id).1 N ops.toList pl σ)=some σ') (h6:Q .normal σ') :
  Ev (exec G L N (drawC T G L N) n (.region id ops true) σ) Q:=by
 obtain ⟨τ,h5',rfl⟩:=finO_eq h5
 have e:drawC T G L N id ops.toList σ=some τ:=by
  unfold drawC drawT
  rw [h2]
  simp only [h3,h4,Bool.and_self,if_true]
  exact h5'
 simp only [exec,e,if_true]
 unfold Ev
 exact h6
theorem ev_all {T:List (Nat×Plan)} (h2:lk id T=none) (τ:St) (h5:allR G (kof L id).1 N ops τ ops.size (Array.replicate ops.size false) σ) (h6:Q .normal (fin (kof L id) τ)) :
  Ev (exec G L N (drawC T G L N) n (.region id ops true) σ) Q:=by
 have e:drawC T G L N id ops.toList σ=some τ:=by
  unfold drawC
  rw [h2]
  have hx:∃ σ',allR G (kof L id).1 N ops.toList.toArray σ' ops.toList.length (Array.replicate ops.toList.length false) σ:=⟨τ,by simpa using h5⟩
  simp only [dif_pos hx]
  have hs:=Classical.choose_spec hx
  simp only [Array.toArray_toList,Array.length_toList] at hs
  rw [Option.some.injEq]
  exact allR_one hs h5
 simp only [exec,e,if_true]
 unfold Ev
 exact h6
end
def idxOf:Nat->List Nat->Nat->Option Nat
 | _,[],_=>none
 | i,x :: r,s=>if x=s then some i else idxOf (i+1) r s
def newN (d j:Nat):Nat:=2000000+16*d+j
def fdn (d:Nat) (l:List Nat) (s:Nat):Option Nat :=
 if hi s=true then (if s=100099999\/(102000000+16*d<=s/\s < 102000016+16*d) then none else some (s-100000000))
 else match idxOf 0 l s with
  | some j=>if j < 16 then some (newN d j) else none
  | none=>none
def surv:List (Nat×Blk)->List Nat
 | []=>[]
 | (s,_) :: r=>if hi s=true then surv r else s :: surv r
def St.enterI (σ:St) (args:List V):St :=
 { env:=parEnv 0 (args.map (mapV (onLive σ fup) 6))++upEnv (σ.mapN fup).env,blk:=(σ.mapN fup).blk,tr:=σ.tr }
def St.leaveI (σ:St) (d:Nat):St:=(σ.mapN (fdn d (surv σ.blk))).leave
theorem idxOf_inj:∀ {l:List Nat} {i s s' j:Nat},idxOf i l s=some j->idxOf i l s'=some j->s=s'/\i<=j
 | [],_,_,_,_,h,_=>by simp [idxOf] at h
 | x :: r,i,s,s',j,h,h'=>by
  have ge:∀ {l:List Nat} {i s j:Nat},idxOf i l s=some j->i<=j:=by
   intro l
   induction l with
   | nil=>intro i s j h; simp [idxOf] at h
   | cons y r ih =>
    intro i s j h
    simp only [idxOf] at h
    split at h
    ·simp only [Option.some.injEq] at h; omega
    ·have:=ih h; omega
  simp only [idxOf] at h h'
  split at h
  ·rename_i e
   simp only [Option.some.injEq] at h
   split at h'
   ·rename_i e'; exact ⟨e.symm.trans e',by omega⟩
   ·have:=ge h'; omega
  ·split at h'
   ·simp only [Option.some.injEq] at h'
    have:=ge h; omega
   ·obtain ⟨h1,h2⟩:=idxOf_inj h h'
    exact ⟨h1,by omega⟩
theorem fdn_inj {d:Nat} {l:List Nat} (s s' t:Nat) (h:fdn d l s=some t) (h':fdn d l s'=some t):s=s':=by
 unfold fdn at h h'
 split at h
 ·rename_i h1
  simp only [hi_eq,decide_eq_true_eq] at h1
  split at h
  ·cases h
  ·rename_i h2
   simp only [Option.some.injEq] at h
   split at h'
   ·rename_i h3
    simp only [hi_eq,decide_eq_true_eq] at h3
    split at h'
    ·cases h'
    ·simp only [Option.some.injEq] at h'; omega
   ·split at h'
    ·split at h'
     ·simp only [Option.some.injEq,newN] at h'; omega
     ·cases h'
    ·cases h'
 ·split at h
  ·rename_i j hj
   split at h
   ·rename_i hj16
    simp only [Option.some.injEq,newN] at h
    split at h'
    ·rename_i h3
     simp only [hi_eq,decide_eq_true_eq] at h3
     split at h'
     ·cases h'
     ·simp only [Option.some.injEq] at h'; omega
    ·split at h'
     ·rename_i j' hj'
      split at h'
      ·simp only [Option.some.injEq,newN] at h'
       have:j=j':=by omega
       subst this
       exact (idxOf_inj hj hj').1
      ·cases h'
     ·cases h'
   ·cases h
  ·cases h
theorem fdn_YN {d:Nat} {l:List Nat} (s:Nat):fdn d l s≠some YN:=by
 intro h
 unfold fdn at h
 split at h
 ·rename_i h1
  simp only [hi_eq,decide_eq_true_eq] at h1
  split at h
  ·cases h
  ·simp only [Option.some.injEq,YN] at h; omega
 ·split at h
  ·split at h
   ·simp only [Option.some.injEq,newN,YN] at h; omega
   ·cases h
  ·cases h
section
variable {C:Base} {σ:St} {a:Act} {w:World} {μ:Mu} {Fz Fy:Nat->Prop}
def Base.callee (C:Base) (N:Nat) (σ:St) (a:Act) (w:World) (μ:Mu) (Fz Fy:Nat->Prop):Base :=
 { N:=N,B:=w.heap.size,w0:=w,Fz0:=Fz,X:=fun b=>(∃ s,lk s σ.blk≠none/\∃ base,μ s=some (b,base))\/C.M b,Fy0:=Fy,M:=C.M,yl:=C.yl,out:=fun k=>C.get a (k-GH) }
theorem Sim.enterI (h:Sim C σ a w μ Fz Fy) {N:Nat} (hN:N<=90000) {args:List V} {us:List Value} (hl:us.length=args.length) (hn:args.length<=N)
  (hr:∀ (j:Nat) (y:V),args[j]? = some y->∃ u,us[j]? = some u/\RepV μ (shs σ) Fz Fy w y u) :
  ∃ μ',Sim (C.callee N σ a w μ Fz Fy) (σ.enterI args) { tmps:=us.toArray++Array.replicate (N-us.toArray.size) undef,defers:=[] } w μ' Fz Fy:=by
 obtain ⟨μ',hm,hrep,hwho⟩:=h.mapN fup_inj fup_YN
 refine ⟨μ',?_⟩
 refine { defers:=fun d hd=>by simp at hd,dist:=.nil,size:=?_,small:=hN,env:=fun k v hk=>⟨trivial,?_⟩,blk:=hm.blk,live:=fun s hs b base hmm=>?_,inj:=hm.inj,zy:=h.zy,yl:=h.yl,gl:=h.gl,z0:=fun b hb=>.inl hb,y0:=fun b hb=>.inl hb,below:=BelowX.refl _ (Nat.le_refl _),big:=Nat.le_refl _,fm:=hm.fm,yd:=fun y hy=>?_,mm:=fun b hb=>.inr (.inr hb),lp:=fun _ e=>(by cases e) }
 ·simp [Base.callee,hl]; omega
 ·rcases lk_append hk with hk | hk
  ·rw [lk_parEnv] at hk
   simp only [Nat.zero_le,if_true,Nat.sub_zero,List.getElem?_map,Option.map_eq_some_iff] at hk
   obtain ⟨y,hy,rfl⟩:=hk
   have hkl:k < args.length:=(List.getElem?_eq_some_iff.1 hy).1
   obtain ⟨u,hu,hru⟩:=hr k y hy
   have e:(C.callee N σ a w μ Fz Fy).get { tmps:=us.toArray++Array.replicate (N-us.toArray.size) undef,defers:=[] } k=u:=by
    have hku:k < us.length:=by omega
    rw [List.getElem?_eq_getElem hku] at hu
    simp only [Option.some.injEq] at hu
    rw [Base.get,if_pos (by unfold GH; omega)]
    simp [Array.getD_eq_getD_getElem?,Array.getElem?_append,hku,hu]
   rw [e]
   exact hrep 6 y u hru
  ·obtain ⟨h1,h2⟩:=lk_up hk
   have:=(hm.env (k-GH) v h2).2
   rw [show (C.callee N σ a w μ Fz Fy).get { tmps:=us.toArray++Array.replicate (N-us.toArray.size) undef,defers:=[] } k=C.get a (k-GH) from by rw [Base.get,if_neg (by omega)]; rfl]
   exact this
 ·obtain ⟨s',hs',_,e⟩:=hwho s hs
  exact ⟨.inr (.inl ⟨s',hs',base,e▸hmm⟩),(hm.live s hs b base hmm).2⟩
 ·obtain ⟨y1,y2,y3,y4,y5⟩:=hm.yd y hy
  refine ⟨y1,y2,Nat.le_trans y3 h.big,fun b hlt hb=>?_,fun b hb=>.inr (.inr hb)⟩
  rcases hb with ⟨s,hs,base,hmm⟩ | hb
  ·rcases (h.live s hs b base hmm).1 with h1 | h1
   ·exact absurd h1 (by omega)
   ·exact y4 b hlt h1
  ·exact .inl hb
theorem RepV.shut {sh:Mu} {w':World} {own:Nat->Prop} (hw:Shut own w w') {x:V} {v:Value} (h:RepV μ sh Fz Fy w x v):RepV μ sh Fz Fy w' x v:=by
 have hroom:∀ b o n,Room w b o n->Room w' b o n:=fun b o n ⟨c,e,hc,hn⟩=>by
  rcases hw.blk b with k | ⟨_,ds,k⟩
  ·exact ⟨c,e,k.trans hc,hn⟩
  ·rw [k] at hc; cases hc
 induction h with
 | yv l hm=>exact .yv l hm
 | top v=>exact .top v
 | fv ro x v h=>exact .fv ro x v (h.cells_mono (fun _ x=>x) hw.cell)
 | ownx s off len v h=>exact .ownx s off len v h
 | own s off len ad cap sz n hs hn hc hm=>exact .own s off len ad cap sz n hs hn hc (hm.imp id fun ⟨b,base,e1,e2,e3⟩=>⟨b,base,e1,e2,hroom _ _ _ e3⟩)
 | ptrx s off v h=>exact .ptrx s off v h
 | ptr s off b base hm=>exact .ptr s off b base hm
 | pelx s i j v h=>exact .pelx s i j v h
 | pel s i j sz n b base hs hi hm=>exact .pel s i j sz n b base hs hi hm
 | agg cells vs hs hr ih=>exact .agg cells vs hs ih
 | fn f first captured vf vc hs hs' hr hr' ih ih'=>exact .fn f first captured vf vc hs hs' ih ih'
 | mapx s v h=>exact .mapx s v h
 | map s b base hm=>exact .map s b base hm
 | tup cells vs hs hr ih=>exact .tup cells vs hs ih
theorem RepB.shut {sh:Mu} {w':World} {own:Nat->Prop} (hw:Shut own w w') {s:Nat} {x:Blk} (h:RepB μ sh Fz Fy w s x):RepB μ sh Fz Fy w' s x:=by
 have hcells:∀ (b:Nat) (o:Obj),w.heap[b]? = some o->(∀ ds,o≠.deferred ds)->w'.heap[b]? = some o:=fun b o hb hne=>by
  rcases hw.blk b with k | ⟨_,ds,k⟩
  ·exact k.trans hb
  ·rw [k] at hb; simp only [Option.some.injEq] at hb; exact absurd hb.symm (hne ds)
 cases h with
 | nil sz=>exact .nil sz
 | arr sz xs b base c e hm hh hc hsz hr=>exact .arr sz xs b base c e hm (hcells _ _ hh (by simp)) hc hsz fun i x j y h1 h2=>(hr i x j y h1 h2).cells_mono (fun _ x=>x) hw.cell
 | box cells b c e hm hh hc hr=>exact .box cells b c e hm (hcells _ _ hh (by simp)) hc fun j y hj=>(hr j y hj).shut hw
 | lst sz n cells b base c e hm hh hl hc hr=>exact .lst sz n cells b base c e hm (hcells _ _ hh (by simp)) hl hc fun j y hj=>(hr j y hj).shut hw
 | mp es b c hm hh hc hr =>
  refine .mp es b c hm (hcells _ _ hh (by simp)) hc fun j y hj=>?_
  obtain ⟨m,h1,h0,h2,h3⟩:=hr j y hj
  exact ⟨m,h1,h0,h2.cells_mono (fun _ x=>x) hw.cell,h3.shut hw⟩
 | mit mv since last seen b x hm hh hr=>exact .mit mv since last seen b x hm (hcells _ _ hh (by simp)) (hr.shut hw)
theorem Sim.shut {w':World} (h:Sim C σ a w μ Fz Fy) (hw:Shut (fun b=>C.mine b/\Fy b) w w'):Sim C σ { a with defers:=[] } w' μ Fz Fy:=by
 have hcells:∀ (b:Nat) (o:Obj),w.heap[b]? = some o->(∀ ds,o≠.deferred ds)->w'.heap[b]? = some o:=fun b o hb hne=>by
  rcases hw.blk b with k | ⟨_,ds,k⟩
  ·exact k.trans hb
  ·rw [k] at hb; simp only [Option.some.injEq] at hb; exact absurd hb.symm (hne ds)
 have hb:=h.below
 have hbel:BelowX C w':=by
  refine ⟨hw.os.trans hb.os,hw.tape.trans hb.tape,hw.output.trans hb.output,by rw [hw.size]; exact hb.size,fun k hk hx=>?_,fun k c e fr hx hk hc=>?_,by rw [hw.drawn]; exact hb.drawn⟩
  ·rcases hw.blk k with k1 | ⟨⟨k1,_⟩,_⟩
   ·exact k1.trans (hb.block k hk hx)
   ·rcases k1 with k1 | k1
    ·omega
    ·exact absurd k1 hx
  ·obtain ⟨c',e1,e2⟩:=hb.kept k c e fr hx hk hc
   exact ⟨c',hcells _ _ e1 (by simp),e2⟩
 have hsame:∀ b,C.M b->w'.heap[b]? = w.heap[b]?:=fun b hM=>(hw.blk b).resolve_right fun ⟨⟨_,k⟩,_⟩=>(h.fm b hM).2.1 k
 have hkp:Keeps w w':=fun b c e fr hb=>⟨c,hcells b _ hb (by simp),rfl⟩
 exact { defers:=fun d hd=>by simp at hd,dist:=.nil,size:=h.size,small:=h.small,env:=fun k v hk=>⟨trivial,((h.env k v hk).2).shut hw⟩,blk:=fun s b hb=>(h.blk s b hb).shut hw,live:=fun s hs b base hm=>by rw [hw.size]; exact h.live s hs b base hm,inj:=h.inj,zy:=h.zy,yl:=fun b hb=>by rw [hw.size]; exact h.yl b hb,z0:=h.z0,y0:=h.y0,below:=hbel,big:=by rw [hw.size]; exact h.big,fm:=fun b hb=>by rw [hw.size]; exact h.fm b hb,yd:=h.yd_stays hkp hbel (by rw [hw.size]; exact Nat.le_refl _) hsame (by rw [hw.drawn]; exact Nat.le_refl _),mm:=h.mm,lp:=h.lp,gl:=fun g c e=>(h.gl g c e).cells_mono (fun _ x=>x) hw.cell }
theorem Sim.backI (h:Sim C σ a w μ Fz Fy) {N:Nat} {M1:Nat->Prop} {τ:St} {a1:Act} {w1:World} {μ1:Mu} {Fz1 Fy1:Nat->Prop} (hM1:More (C.callee N σ a w μ Fz Fy) M1) (S:Sim ((C.callee N σ a w μ Fz Fy).withM M1) τ a1 w1 μ1 Fz1 Fy1) :
  Sim (C.withM M1) τ.leave a w1 μ1 Fz1 (fun b=>Fy1 b\/∃ d∈a.defers,d.target = .collected b)/\More C M1:=by
 have hbel:=S.below
 have hsz:w.heap.size<=w1.heap.size:=hbel.size
 have hk:Keeps w w1:=fun b c e fr hb=>by
  have hbl:=(Array.getElem?_eq_some_iff.1 hb).1
  by_cases ho:((C.callee N σ a w μ Fz Fy).withM M1).X b
  ·exact hbel.kept b c e fr ho hbl hb
  ·exact ⟨c,(hbel.block b hbl ho).trans hb,rfl⟩
 have h':Sim (C.withM C.M) σ a w μ Fz Fy:=h
 refine ⟨Sim.back (l:=w.heap.size) h' S (M2:=M1) rfl ((C.callee N σ a w μ Fz Fy).withM M1).mine (fun b hb=>hb) rfl rfl hM1.sub (fun b hb=>(hM1.new b hb).elim (fun k=>.inr (.inr k)) .inl) (fun s hs b base hm=>(S.live s hs b base hm).1) S.z0 S.y0 h.big (fun hf=>absurd (h.yl _ hf) (by omega)) hbel.os hbel.tape hbel.output hsz hbel.drawn hk (fun b hb ho _=>hbel.block b hb fun hx=>ho (.inr hx)),hM1.sub,fun b hb=>(hM1.new b hb).imp id fun k=>Nat.le_trans h.big k⟩
theorem inl_of_exec {G:Pg} (hT:TOk G) (hC:CtxOk G) (hyl:G.yl=none) {k:FuncId} {fn:Func} {c:Code} (hf:G.P.funcs[k]? = some fn) (hb:fn.body=some c) {L:Live} {D:Drawer} (hD:DrawOk G fn.ntmps D) (n d:Nat) {σ:St}
  {args:List V} (hargs:args.length<=fn.ntmps/\fn.ntmps<=90000) {e:Ex} {σ1:St} (hx:exec G L fn.ntmps D n c (σ.enterI args)=some (e,σ1)) (he:e = .normal\/e = .ret) {vs:List V} (hs:slotsA G σ1 fn.results.toList=some vs) :
  InlOK G.P k σ args (σ1.leaveI d) (vs.map (mapV (onLive σ1 (fdn d (surv σ1.blk))) 6)):=by
 intro C a w μ Fz Fy us h hl hr
 refine calls_of_marks hf hb ?_
 obtain ⟨μ0,hinit⟩:=h.enterI hargs.2 hl hargs.1 hr
 refine exec_sound hT hC hD c (C.callee fn.ntmps σ a w μ Fz Fy) _ _ _ _ _ _ _ _ _ 0 rfl (yok_none hyl) hinit hx fun M' a' w' μ' Fz' Fy' hM h'=>?_
 have hq:LeavesInM (FR none) 0 G.P fn a'.tmps (fun e w'=>∃ rs M' μ' Fz' Fy',e = .returned (pack rs)/\More C M'/\Sim (C.withM M') (σ1.leaveI d) a w' μ' Fz' Fy'/\rs.length=(vs.map (mapV (onLive σ1 (fdn d (surv σ1.blk))) 6)).length/\∀ (j:Nat) (y:V),(vs.map (mapV (onLive σ1 (fdn d (surv σ1.blk))) 6))[j]? = some y->∃ u,rs[j]? = some u/\RepV μ' (shs (σ1.leaveI d)) Fz' Fy' w' y u) a'.defers .returning w':=by
  refine leaves_marks (own:=fun b=>((C.callee fn.ntmps σ a w μ Fz Fy).withM M').mine b/\Fy' b) a'.defers w' (fun d hd=>?_) h'.dist fun w'' hw=>?_
  ·obtain ⟨D,e1,e2,e3,e4⟩:=h'.defers d hd
   exact ⟨D,e1,⟨e3 rfl,e2⟩,e4⟩
  obtain ⟨us',k2,k1,k3⟩:=slotsA_sound hT h' hs
  have h2:=h'.shut hw
  obtain ⟨μ2,h3,hrep,_⟩:=h2.mapN (f:=fdn d (surv σ1.blk)) fdn_inj fdn_YN
  obtain ⟨h4,h5⟩:=h.backI hM h3
  refine ⟨pack us',?_,us',M',μ2,Fz',_,rfl,h5,h4,by simp [k2],fun j y hj=>?_⟩
  ·rw [results_eq,Array.mapM_eq_mapM_toList]
   simp only [Sem.run_bind,Sem.run_map]
   rw [k1 w'' hw.cell]
   simp only [Result.andThen_ok,Sem.run_pure]
   congr 1
   match us' with
   | []=>rfl
   | [u]=>rfl
   | u :: u' :: us''=>simp [pack]
  ·simp only [List.getElem?_map,Option.map_eq_some_iff] at hj
   obtain ⟨y',hy',rfl⟩:=hj
   obtain ⟨u,hu,hru⟩:=k3 j y' hy'
   refine ⟨u,hu,?_⟩
   have:=hrep 6 y' u (hru.shut hw)
   exact this.mono (fun _ x=>x) (fun _ x=>.inl x) (fun _ _=>rfl) (fun _ _=>rfl) (Keeps.refl w'') (fun _=>False) (fun _ _=>.inr ⟨rfl,rfl⟩) (fun _ x=>x) (fun _ x=>x.elim)
 rcases he with rfl | rfl<;>exact hq
end
structure FnI where
 fn:Func
 live:Live
 plans:List (Nat×Plan)
 pure:Bool
 fz:Bool:=false
 pin:List Nat:=[]
abbrev FnTab:=List (Nat×FnI)
def fnChk (f : FnI) : Bool := f.fn.body.isSome && !(f.fn.name == "runtime.NumGoroutine")
def TabOk (P:Program):FnTab->Prop
 | []=>True
 | (k,f) :: r=>(P.funcs[k]? = some f.fn/\fnChk f=true)/\TabOk P r
theorem TabOk.get {P:Program}:∀ {T:FnTab} {k:Nat} {f:FnI},TabOk P T->lk k T=some f->P.funcs[k]? = some f.fn/\fnChk f=true
 | (j,g) :: r,k,f,h,hk=>by
  simp only [lk] at hk
  split at hk
  ·rename_i e; subst e
   simp only [Option.some.injEq] at hk; subst hk
   exact h.1
  ·exact TabOk.get h.2 hk
theorem enters_tab {P:Program} {T:FnTab} {k:Nat} {f:FnI} (h:TabOk P T) (hk:lk k T=some f):Enters P k:=by
 obtain ⟨h1,h2⟩:=h.get hk
 simp only [fnChk,Bool.and_eq_true,Bool.not_eq_true',Option.isSome_iff_exists] at h2
 obtain ⟨⟨c,hc⟩,h3⟩:=h2
 exact ⟨f.fn,h1,by simp [hc],h3⟩
section
variable {G:Pg}
end
end Go.Proofs.YtejodhjhddnbeaaDoor.E
namespace Go.Proofs.YtejodhjhddnbeaaDoor.E
open Go Go.RowKit Go.ChangeShapes
def isStruct (P:Program) (t:Nat):Bool:=match P.underlying t with | some (.struct _)=>true | some (.array _ _)=>true | _=>false
def consec (P:Program) (tot:Nat):Nat->List Field->Bool
 | k,[]=>k==tot
 | k,f :: r=>f.offset==k&&consec P tot (k+P.cellsOf f.type) r
def arrF (e c:Nat):Nat->Nat->List Field
 | _,0=>[]
 | s, m + 1 => { name := "", type := e, offset := s * c, embedded := false, tag := "", pkgPath := "", byteOffset := 0 } :: arrF e c (s + 1) m
def dataT (P:Program):Nat->Nat->Bool
 | 0,_=>false
 | n+1,t=>match P.underlying t with
  | some (.int _)=>true
  | some .bool=>true
  | some .string=>true
  | some (.slice e)=>Nat.ble 1 (P.cellsOf e)&&dataT P n e
  | some (.struct fs)=>consec P (P.cellsOf t) 0 fs.toList&&fs.toList.all fun f=>dataT P n f.type
  | some (.array k e)=>P.cellsOf t==k*P.cellsOf e&&dataT P n e
  | _=>false
def FVT (P:Program):Nat->Nat->List FV->Prop
 | 0,_,_=>False
 | n+1,t,fs=>match P.underlying t with
  | some (.int k)=>∃ m,fs=[.int k m]
  | some .bool=>∃ b,fs=[.bool b]
  | some .string=>∃ s:ByteArray,fs=[.str s]/\s.size<=reachBytes
  | some (.slice e)=>∃ xs:List FV,fs=[.sl false (P.cellsOf e) xs]/\xs.length*P.bytesOf e<=reachBytes/\∀ x∈xs,(if isStruct P e=true then ∃ gs,x = .agg gs/\FVT P n e gs else FVT P n e [x])
  | some (.struct fl)=>∃ gss:List (List FV),gss.length=fl.toList.length/\fs=gss.flatten/\∀ (i:Nat) (f:Field) (g:List FV),fl.toList[i]? = some f->gss[i]? = some g->FVT P n f.type g
  | some (.array k e)=>∃ gss:List (List FV),gss.length=k/\fs=gss.flatten/\∀ g∈gss,FVT P n e g
  | _=>False
section
variable {H:Type} {enc:TypeId×Value->H} {P:Program} {W W':World} {base:Nat} {spare:Nat->Bool} {held:Bool}
theorem cell_keep (hk:∀ b,b < W.heap.size->W'.heap[b]? = W.heap[b]?) {a:Addr} {v:Value} (h:W.cell? a=some v):W'.cell? a=some v/\a.block < W.heap.size/\a.spot=none:=by
 unfold World.cell? at h ⊢
 split at h
 ·rename_i c e fr hb
  have hlt:=(Array.getElem?_eq_some_iff.1 hb).1
  rw [hk _ hlt,hb]
  refine ⟨h,hlt,?_⟩
  cases hs:a.spot with
  | none=>rfl
  | some s=>simp [hs] at h
 ·cases h
theorem arrF_length (e c:Nat):∀ (m s:Nat),(arrF e c s m).length=m
 | 0,_=>rfl
 | m+1,s=>by simp [arrF,arrF_length e c m]
theorem arrF_mem (e c:Nat):∀ (m s:Nat),∀ f∈arrF e c s m,f.type=e/\∃ i,s<=i/\i < s+m/\f.offset=i*c
 | 0,_,f,h=>by simp [arrF] at h
 | m+1,s,f,h=>by
  simp only [arrF,List.mem_cons] at h
  rcases h with rfl | h
  ·exact ⟨rfl,s,by omega,by omega,rfl⟩
  ·obtain ⟨h1,i,h2,h3,h4⟩:=arrF_mem e c m (s+1) f h
   exact ⟨h1,i,by omega,by omega,h4⟩
theorem arrF_consec (e:Nat):∀ (m s:Nat),consec P ((s+m)*P.cellsOf e) (s*P.cellsOf e) (arrF e (P.cellsOf e) s m)=true
 | 0,s=>by simp [arrF,consec]
 | m+1,s=>by
  have ih:=arrF_consec e m (s+1)
  simp only [arrF,consec,beq_self_eq_true,Bool.true_and]
  rw [show s*P.cellsOf e+P.cellsOf e=(s+1)*P.cellsOf e by rw [Nat.succ_mul],show s+(m+1)=s+1+m by omega]
  exact ih
theorem add_none (b o i j:Nat):((⟨b,o,none⟩:Addr).add i).add j=⟨b,o+(i+j),none⟩:=by
 unfold Addr.add
 by_cases h1:i=0<;>by_cases h2:j=0<;>simp [h1,h2,Nat.add_assoc]
theorem FVT_single {n t:Nat} {fs:List FV} (h:FVT P n t fs) (hs:isStruct P t=false):∃ g,fs=[g]:=by
 cases n with
 | zero=>exact h.elim
 | succ n =>
  simp only [FVT] at h
  split at h
  ·obtain ⟨m,rfl⟩:=h; exact ⟨_,rfl⟩
  ·obtain ⟨m,rfl⟩:=h; exact ⟨_,rfl⟩
  ·obtain ⟨m,rfl,_⟩:=h; exact ⟨_,rfl⟩
  ·obtain ⟨m,rfl,_⟩:=h; exact ⟨_,rfl⟩
  ·rename_i ht; simp [isStruct,ht] at hs
  ·rename_i ht; simp [isStruct,ht] at hs
  ·exact h.elim
theorem weights_all {e:TypeId} {m:Nat}:∀ {l:List (DataW H)} {d:DataW H},d∈l->m∈d.weights P e->m∈DataW.weightsAll P e l
 | x :: r,d,hd,hm=>by
  simp only [DataW.weightsAll,List.mem_append]
  rcases List.mem_cons.1 hd with rfl | hd
  ·exact .inl hm
  ·exact .inr (weights_all hd hm)
theorem fields_rep {n:Nat} {cs:List Value} (ih:∀ (t:Nat),dataT P n t=true->∀ (fuel:Nat) (cs:List Value) (x:DataW H×List MemPlace),DataW.trod enc P W base spare held fuel t cs=some x->(∀ m∈x.1.weights P t,m<=reachBytes) ->
  ∃ fs:List FV,FVT P n t fs/\fs.length=cs.length/\(∀ y∈fs,nagg y=true)/\∀ (j:Nat) (y:FV),fs[j]? = some y->RepF (fun b=>b < W.heap.size) W y (cs.getD j undef)) {fuel:Nat} :
  ∀ (fl:List Field) (k:Nat),consec P cs.length k fl=true->(∀ f∈fl,dataT P n f.type=true)->(∀ f∈fl,∃ y,DataW.trod enc P W base spare held fuel f.type ((cs.drop f.offset).take (P.cellsOf f.type))=some y/\∀ m∈y.1.weights P f.type,m<=reachBytes) ->
   k<=cs.length/\∃ gss:List (List FV),gss.length=fl.length/\(∀ (i:Nat) (f:Field) (g:List FV),fl[i]? = some f->gss[i]? = some g->FVT P n f.type g)/\k+gss.flatten.length=cs.length/\(∀ y∈gss.flatten,nagg y=true) ∧
    ∀ (j:Nat) (y:FV),gss.flatten[j]? = some y->RepF (fun b=>b < W.heap.size) W y (cs.getD (k+j) undef)
 | [],k,hc,_,_=>by
  simp only [consec,beq_iff_eq] at hc
  exact ⟨by omega,[],rfl,by simp,by simpa using hc,by simp,by simp⟩
 | f :: r,k,hc,hd,hf=>by
  simp only [consec,Bool.and_eq_true,beq_iff_eq] at hc
  obtain ⟨ho,hc⟩:=hc
  obtain ⟨hle,gss,g1,g2,g3,g4,g5⟩:=fields_rep ih r _ hc (fun g hg=>hd g (List.mem_cons_of_mem _ hg)) (fun g hg=>hf g (List.mem_cons_of_mem _ hg))
  obtain ⟨y,hy,hyw⟩:=hf f List.mem_cons_self
  obtain ⟨fs,e1,e2,e3,e4⟩:=ih f.type (hd f List.mem_cons_self) _ _ _ hy hyw
  rw [ho] at e2 e4
  have hlen:fs.length=P.cellsOf f.type:=by rw [e2]; simp; omega
  refine ⟨by omega,fs :: gss,by simp [g1],fun i g x hg hx=>?_,by simp only [List.flatten_cons,List.length_append]; omega,fun y hy=>?_,fun j y hj=>?_⟩
  ·cases i with
   | zero =>
    simp only [List.getElem?_cons_zero,Option.some.injEq] at hg hx
    subst hg hx; exact e1
   | succ i=>exact g2 i g x (by simpa using hg) (by simpa using hx)
  ·simp only [List.flatten_cons,List.mem_append] at hy
   exact hy.elim (e3 y) (g4 y)
  ·simp only [List.flatten_cons] at hj
   by_cases hlt:j < fs.length
   ·rw [List.getElem?_append_left hlt] at hj
    have:=e4 j y hj
    have hg:((cs.drop k).take (P.cellsOf f.type)).getD j undef=cs.getD (k+j) undef:=by
     simp only [List.getD_eq_getElem?_getD]
     rw [List.getElem?_take_of_lt (by omega),List.getElem?_drop]
    rw [<-hg]; exact this
   ·rw [List.getElem?_append_right (by omega)] at hj
    have:=g5 _ y hj
    rw [show k+P.cellsOf f.type+(j-fs.length)=k+j by omega] at this
    exact this
theorem trod_rep : ∀ (n t : Nat),dataT P n t = true → ∀ (fuel : Nat) (cs : List Value) (x : DataW H × List MemPlace),DataW.trod enc P W base spare held fuel t cs = some x → (∀ m ∈ x.1.weights P t,m ≤ reachBytes) →
    ∃ fs : List FV,FVT P n t fs ∧ fs.length = cs.length ∧ (∀ y ∈ fs,nagg y = true) ∧ ∀ (j : Nat) (y : FV),fs[j]? = some y → RepF (fun b => b < W.heap.size) W y (cs.getD j undef)
  | 0,t,hd,_,_,_,_,_ => by simp [dataT] at hd
  | n + 1,t,hd,fuel,cs,x,h,hwt => by
    simp only [dataT] at hd
    split at hd
    · rename_i k ht
      obtain ⟨m,rfl,rfl,hw⟩ := DataW.trod_int ht h
      refine ⟨[.int k m],by simp only [FVT,ht]; exact ⟨m,rfl⟩,rfl,by simp [nagg],fun j y hj => ?_⟩
      cases j with
      | zero => simp only [List.getElem?_cons_zero,Option.some.injEq] at hj; subst hj; exact .int _ _
      | succ j => simp at hj
    · rename_i ht
      obtain ⟨m,rfl,rfl⟩ := DataW.trod_bool ht h
      refine ⟨[.bool m],by simp only [FVT,ht]; exact ⟨m,rfl⟩,rfl,by simp [nagg],fun j y hj => ?_⟩
      cases j with
      | zero => simp only [List.getElem?_cons_zero,Option.some.injEq] at hj; subst hj; exact .bool _
      | succ j => simp at hj
    · rename_i ht
      obtain ⟨m,rfl,rfl,hw⟩ := DataW.trod_string ht h
      have hm : m.size ≤ reachBytes := by
        have := hwt m.data.toList.length (by simp [DataW.weights])
        simpa using this
      refine ⟨[.str m],by simp only [FVT,ht]; exact ⟨m,rfl,hm⟩,rfl,by simp [nagg],fun j y hj => ?_⟩
      cases j with
      | zero => simp only [List.getElem?_cons_zero,Option.some.injEq] at hj; subst hj; exact .str _
      | succ j => simp at hj
    · rename_i e ht
      simp only [Bool.and_eq_true,Nat.ble_eq] at hd
      rcases DataW.trod_slice ht h with ⟨rfl,rfl⟩ | ⟨a,len,cap,elems,rest,f,rfl,rfl,rfl,hb,hl,hm,hlen,hel,hsp,hns⟩
      · refine ⟨[.sl false (P.cellsOf e) []],by simp only [FVT,ht]; exact ⟨[],rfl,by simp,by simp⟩,rfl,by simp [nagg],fun j y hj => ?_⟩
        cases j with
        | zero => simp only [List.getElem?_cons_zero,Option.some.injEq] at hj; subst hj; exact .sl0 _ _ _ _ (by simp)
        | succ j => simp at hj
      · have each : ∀ i,∃ x : FV,i < len → (if isStruct P e = true then ∃ gs,x = .agg gs ∧ FVT P n e gs else FVT P n e [x]) ∧ (cellsOf x).length = P.cellsOf e ∧ (cellsOf x).all nagg = true ∧
            ∀ (j : Nat) (y : FV),(cellsOf x)[j]? = some y → ∃ v,W.cell? ((a.add (i * P.cellsOf e)).add j) = some v ∧ RepF (fun b => b < W.heap.size) W y v := fun i => by
          by_cases hi : i < len
          · have h1 := hel i hi
            rw [List.getElem?_eq_getElem (by omega)] at h1
            simp only [Option.bind_eq_some_iff] at h1
            obtain ⟨cs',h2,h3⟩ := h1
            obtain ⟨gs,g1,g2,g3,g4⟩ := trod_rep n e hd.2 _ _ _ h3 (fun m hm => hwt m (by
              simp only [DataW.weights,ht,List.mem_cons,List.mem_append]
              exact .inr (.inl (weights_all (List.mem_map.2 ⟨_,List.getElem_mem _,rfl⟩) hm))))
            obtain ⟨c1,c2,c3⟩ := World.cells?_some h2
            have hcell : ∀ (j : Nat) (y : FV),gs[j]? = some y → ∃ v,W.cell? ((a.add (i * P.cellsOf e)).add j) = some v ∧ RepF (fun b => b < W.heap.size) W y v := fun j y hj => by
              have hjl : j < cs'.length := by rw [← g2]; exact (List.getElem?_eq_some_iff.1 hj).1
              have h4 := g4 j y hj
              have h5 := c3 j (by omega)
              rw [List.getElem?_eq_getElem hjl] at h5
              rw [List.getD_eq_getElem?_getD,List.getElem?_eq_getElem hjl] at h4
              exact ⟨_,h5,h4⟩
            cases hs : isStruct P e with
            | true =>
              exact ⟨.agg gs,fun _ => ⟨⟨gs,rfl,g1⟩,by simp only [cellsOf]; omega,by simp only [cellsOf,List.all_eq_true]; exact g3,hcell⟩⟩
            | false =>
              obtain ⟨g,rfl⟩ := FVT_single g1 hs
              have hg := g3 g (by simp)
              have hc : cellsOf g = [g] := by cases g <;> first | rfl | simp [nagg] at hg
              refine ⟨g,fun _ => ⟨by simpa using g1,by rw [hc]; omega,by rw [hc]; simpa using hg,by rw [hc]; exact hcell⟩⟩
          · exact ⟨.nilpt,fun h => absurd h hi⟩
        obtain ⟨g,hg⟩ : ∃ g : Nat → FV,∀ i,i < len → (if isStruct P e = true then ∃ gs,g i = .agg gs ∧ FVT P n e gs else FVT P n e [g i]) ∧ (cellsOf (g i)).length = P.cellsOf e ∧ (cellsOf (g i)).all nagg = true ∧
            ∀ (j : Nat) (y : FV),(cellsOf (g i))[j]? = some y → ∃ v,W.cell? ((a.add (i * P.cellsOf e)).add j) = some v ∧ RepF (fun b => b < W.heap.size) W y v :=
          ⟨fun i => Classical.choose (each i),fun i => Classical.choose_spec (each i)⟩
        refine ⟨[.sl false (P.cellsOf e) ((List.range len).map g)],by
          simp only [FVT,ht]
          refine ⟨_,rfl,by
            have := hwt ((elems.length + rest.length) * P.bytesOf e) (by simp [DataW.weights,ht])
            refine Nat.le_trans (Nat.mul_le_mul_right _ ?_) this
            simp; omega,fun x hx => ?_⟩
          simp only [List.mem_map,List.mem_range] at hx
          obtain ⟨i,hi,rfl⟩ := hx
          exact (hg i hi).1,rfl,by simp [nagg],fun j y hj => ?_⟩
        cases j with
        | succ j => simp at hj
        | zero =>
        simp only [List.getElem?_cons_zero,Option.some.injEq] at hj; subst hj
        have hgt : ([Value.slice (some a) len cap] : List Value).getD 0 undef = .slice (some a) len cap := rfl
        rw [hgt]
        have hget : ∀ (i : Nat) (x : FV),((List.range len).map g)[i]? = some x → i < len ∧ x = g i := fun i x hx => by
          simp only [List.getElem?_map,Option.map_eq_some_iff] at hx
          obtain ⟨k,hk,rfl⟩ := hx
          obtain ⟨hk1,hk2⟩ := List.getElem?_eq_some_iff.1 hk
          simp only [List.getElem_range] at hk2
          subst hk2
          exact ⟨by simpa using hk1,rfl⟩
        by_cases h0 : len = 0
        · subst h0
          exact .sl0 _ _ _ _ (by simp)
        · obtain ⟨b,o,sp⟩ := a
          have hfirst : b < W.heap.size ∧ sp = none := by
            obtain ⟨_,k2,_,k4⟩ := hg 0 (by omega)
            have : 0 < (cellsOf (g 0)).length := by omega
            obtain ⟨v,hv,_⟩ := k4 0 _ (List.getElem?_eq_getElem this)
            rw [show ((⟨b,o,sp⟩ : Addr).add (0 * P.cellsOf e)).add 0 = ⟨b,o,sp⟩ by simp [Addr.add]] at hv
            obtain ⟨_,e1,e2⟩ := cell_keep (W' := W) (fun _ _ => rfl) hv
            exact ⟨e1,e2⟩
          obtain ⟨hb1,rfl⟩ := hfirst
          refine .sl false (P.cellsOf e) _ b o len cap (fun i j => (W.cell? ⟨b,o + (i * P.cellsOf e + j),none⟩).getD undef) (by simp) hl (by simp) hb1 (fun i x hx => ?_) (fun i x j y hx hy => ?_) (fun i x j y hx hy => ?_)
          · obtain ⟨hi,rfl⟩ := hget i x hx
            obtain ⟨_,k2,k3,_⟩ := hg i hi
            simp only [cellsOK,Bool.and_eq_true,beq_iff_eq]
            exact ⟨k2,k3⟩
          · obtain ⟨hi,rfl⟩ := hget i x hx
            obtain ⟨v,hv,_⟩ := (hg i hi).2.2.2 j y hy
            rw [add_none] at hv
            rw [hv]; rfl
          · obtain ⟨hi,rfl⟩ := hget i x hx
            obtain ⟨v,hv,hr⟩ := (hg i hi).2.2.2 j y hy
            rw [add_none] at hv
            rw [hv]; exact hr
    · rename_i fs ht
      simp only [List.all_eq_true,Bool.and_eq_true] at hd
      obtain ⟨xs,f,rfl,rfl,hl,hlen,hf⟩ := DataW.trod_struct ht h
      obtain ⟨_,gss,g1,g2,g3,g4,g5⟩ := fields_rep (n := n) (cs := cs) (fuel := f) (trod_rep n) fs.toList 0 (by rw [hl]; exact hd.1) hd.2 (fun g hg => by
        obtain ⟨i,hi,rfl⟩ := List.getElem_of_mem hg
        have h1 := hf i fs.toList[i] (by simp at hi ⊢)
        rw [List.getElem?_eq_getElem (by simpa [hlen] using hi)] at h1
        exact ⟨_,h1,fun m hm => hwt m (by
          simp only [DataW.weights,ht]
          exact DataW.weights_mem_each (j := i) (t := fs.toList[i].type) (d := (xs[i]'(by simpa [hlen] using hi)).1) (by simp [List.getElem?_eq_getElem hi]) (by simp [List.getElem?_eq_getElem (show i < xs.length by simpa [hlen] using hi)]) m hm)⟩)
      exact ⟨gss.flatten,by simp only [FVT,ht]; exact ⟨gss,g1,rfl,g2⟩,by omega,g4,by simpa using g5⟩
    · rename_i k e ht
      simp only [Bool.and_eq_true,beq_iff_eq] at hd
      obtain ⟨xs,f,rfl,rfl,hl,hlen,hf⟩ := DataW.trod_array ht h
      obtain ⟨_,gss,g1,g2,g3,g4,g5⟩ := fields_rep (n := n) (cs := cs) (fuel := f) (trod_rep n) (arrF e (P.cellsOf e) 0 k) 0 (by
          have := arrF_consec (P := P) e k 0
          rw [hl,hd.1]
          simpa using this) (fun g hg => by rw [(arrF_mem e _ k 0 g hg).1]; exact hd.2) (fun g hg => by
        obtain ⟨e1,i,_,hi,e2⟩ := arrF_mem e _ k 0 g hg
        have hi : i < k := by omega
        have h1 := hf i hi
        rw [List.getElem?_eq_getElem (by omega)] at h1
        rw [e1,e2]
        exact ⟨_,h1,fun m hm => hwt m (by
          simp only [DataW.weights,ht]
          exact weights_all (List.mem_map.2 ⟨_,List.getElem_mem _,rfl⟩) hm)⟩)
      rw [arrF_length] at g1
      refine ⟨gss.flatten,by
        simp only [FVT,ht]
        refine ⟨gss,g1,rfl,fun g hg => ?_⟩
        obtain ⟨i,hi,rfl⟩ := List.getElem_of_mem hg
        have hi2 : i < (arrF e (P.cellsOf e) 0 k).length := by rw [arrF_length]; omega
        have := g2 i _ _ (List.getElem?_eq_getElem hi2) (List.getElem?_eq_getElem hi)
        rw [(arrF_mem e _ k 0 _ (List.getElem_mem hi2)).1] at this
        exact this,by omega,g4,by simpa using g5⟩
    · cases hd
def argFV (P:Program) (t:Nat) (fs:List FV):FV:=if isStruct P t=true then .agg fs else fs.headD .nilpt
structure IsT (P:Program) (n t:Nat) (fs:List FV):Prop where
 h:FVT P n t fs
def ArgsT (P:Program) (n:Nat):List TypeId->List FV->Prop
 | [],xs=>xs=[]
 | t :: ts,xs=>∃ fs ys,xs=argFV P t fs :: ys/\IsT P n t fs/\ArgsT P n ts ys
open Go.WideShapes in
theorem arg_rep {n t:Nat} (hd:dataT P n t=true) {v:Value} {d:DataW H} {ps:List MemPlace} {r:Reach} {b0:Nat} (hv:Value.okWide P W r b0 t v) (h:DataW.Trod enc P W base spare held t v d ps) (hw:∀ m∈d.weights P t,m<=reachBytes) :
  ∃ fs,FVT P n t fs/\RepF (fun b=>b < W.heap.size) W (argFV P t fs) v:=by
 obtain ⟨fuel,h⟩:=h
 obtain ⟨fs,h1,h2,h3,h4⟩:=trod_rep n t hd _ _ _ h hw
 refine ⟨fs,h1,?_⟩
 cases hs:isStruct P t with
 | true =>
  simp only [argFV,hs,if_true]
  unfold isStruct at hs
  split at hs
  ·rename_i fl ht
   obtain ⟨cs,rfl,hsz⟩:=okWide_struct ht hv
   refine .agg fs cs (by simpa [Value.cells] using h2.symm) fun j y hj=>?_
   have:=h4 j y hj
   simpa [Value.cells,Array.getD_eq_getD_getElem?,List.getD_eq_getElem?_getD] using this
  ·rename_i k e ht
   obtain ⟨cs,rfl,hsz,_⟩:∃ cs,v = .agg cs/\cs.size=P.cellsOf t/\Row.okWide P W r b0 t cs:=by
    simpa only [Value.okWide,ht] using hv
   refine .agg fs cs (by simpa [Value.cells] using h2.symm) fun j y hj=>?_
   have:=h4 j y hj
   simpa [Value.cells,Array.getD_eq_getD_getElem?,List.getD_eq_getElem?_getD] using this
  ·cases hs
 | false =>
  obtain ⟨g,rfl⟩:=FVT_single h1 hs
  simp only [argFV,hs,Bool.false_eq_true,if_false,List.headD_cons]
  have hg:=h4 0 g rfl
  have hc:v.cells=#[v]:=by
   cases n with
   | zero=>simp [dataT] at hd
   | succ n =>
    simp only [dataT] at hd
    split at hd
    ·rename_i ht; obtain ⟨m,rfl⟩:=okWide_int ht hv; rfl
    ·rename_i ht; obtain ⟨m,rfl⟩:=okWide_bool ht hv; rfl
    ·rename_i ht; obtain ⟨m,rfl⟩:=okWide_string ht hv; rfl
    ·rename_i ht; obtain ⟨a,l,c,rfl⟩:=okWide_slice ht hv; rfl
    ·rename_i ht; simp [isStruct,ht] at hs
    ·rename_i ht; simp [isStruct,ht] at hs
    ·cases hd
  rw [hc] at hg
  exact hg
theorem args_open {n:Nat}:∀ (ts:List TypeId) {vs:List Value} {ds:List (DataW H)} {ps:List MemPlace},(∀ t∈ts,dataT P n t=true)->(∀ (j:Nat) t v,ts[j]? = some t->vs[j]? = some v->Value.okWide P W .any base t v) ->
  DataW.TrodAll enc P W 0 (fun _=>true) true ts vs ds ps->(∀ m∈DataW.weightsEach P ts ds,m<=reachBytes) ->
  ds.length=ts.length/\∃ xs,ArgsT P n ts xs/\xs.length=vs.length/\∀ (j:Nat) (x:FV),xs[j]? = some x->∃ v,vs[j]? = some v/\RepF (fun b=>b < W.heap.size) W x v
 | [],vs,ds,ps,_,_,h,_=>by
  obtain ⟨rfl,rfl,rfl⟩:=trodAll_nil h
  exact ⟨rfl,[],rfl,rfl,by simp⟩
 | t :: ts,vs,ds,ps,hd,hv,h,hw=>by
  obtain ⟨v,vs',d,ds',p,q,rfl,rfl,rfl,h1,h2⟩:=trodAll_cons h
  obtain ⟨e1,xs,e2,e3,e4⟩:=args_open ts (fun t ht=>hd t (List.mem_cons_of_mem _ ht)) (fun j t v h1 h2=>hv (j+1) t v (by simpa using h1) (by simpa using h2)) h2 (fun m hm=>hw m (by simp only [DataW.weightsEach,List.mem_append]; exact .inr hm))
  obtain ⟨fs,f1,f2⟩:=arg_rep (hd t List.mem_cons_self) (hv 0 t v rfl rfl) h1 (fun m hm=>hw m (by simp only [DataW.weightsEach,List.mem_append]; exact .inl hm))
  refine ⟨by simp [e1],argFV P t fs :: xs,⟨fs,xs,rfl,⟨f1⟩,e2⟩,by simp [e3],fun j x hj=>?_⟩
  cases j with
  | zero=>simp only [List.getElem?_cons_zero,Option.some.injEq] at hj; subst hj; exact ⟨v,rfl,f2⟩
  | succ j=>simpa using e4 j x (by simpa using hj)
theorem args_back (hl:laidOutB P=true) (hb:Below W.heap.size W W'):∀ (ts:List TypeId) {vs:List Value} {ds:List (DataW H)} {ps:List MemPlace},(∀ t∈ts,P.readableRec t=true/\t < P.types.size)->(∀ x∈ps,x.block < W.heap.size) ->
  DataW.TrodAll enc P W 0 (fun _=>true) true ts vs ds ps->DataW.TrodAll enc P W' 0 (fun b=>decide (b < W.heap.size)) true ts vs ds ps
 | [],vs,ds,ps,_,_,h=>by
  obtain ⟨rfl,rfl,rfl⟩:=trodAll_nil h
  exact trodAll_mk0
 | t :: ts,vs,ds,ps,hd,hp,h=>by
  obtain ⟨v,vs',d,ds',p,q,rfl,rfl,rfl,h1,h2⟩:=trodAll_cons h
  exact ⟨p,q,Go.RowKit.Below.trod hl (hd t List.mem_cons_self).1 (hd t List.mem_cons_self).2 h1 hb.kit (fun x hx=>hp x (List.mem_append_left _ hx)),
   args_back hl hb ts (fun t ht=>hd t (List.mem_cons_of_mem _ ht)) (fun x hx=>hp x (List.mem_append_right _ hx)) h2,rfl⟩
theorem trodAll_len:∀ {ts:List TypeId} {vs:List Value} {ds:List (DataW H)} {ps:List MemPlace} {sp:Nat->Bool} {hd:Bool},DataW.TrodAll enc P W 0 sp hd ts vs ds ps->ds.length=ts.length
 | [],vs,ds,ps,_,_,h=>by obtain ⟨rfl,rfl,rfl⟩:=trodAll_nil h; rfl
 | t :: ts,vs,ds,ps,_,_,h=>by
  obtain ⟨v,vs',d,ds',p,q,rfl,rfl,rfl,h1,h2⟩:=trodAll_cons h
  simp [trodAll_len h2]
theorem weights_app {m:Nat}:∀ (ts us:List TypeId) (ds:List (DataW H)),m∈DataW.weightsEach P ts ds->m∈DataW.weightsEach P (ts++us) ds
 | [],us,ds,h=>by simp [DataW.weightsEach] at h
 | t :: ts,us,[],h=>by simp [DataW.weightsEach] at h
 | t :: ts,us,d :: ds,h=>by
  simp only [DataW.weightsEach,List.mem_append,List.cons_append] at h ⊢
  exact h.imp id (weights_app ts us ds)
theorem law_contract {f:Func} {k:FuncId} {s:ChangeSpec} {n tb:Nat} (hl:laidOutB P=true) (hp:∀ t∈f.params.toList,P.readableRec t=true/\t < P.types.size) (hd:∀ t∈f.params.toList,dataT P n t=true) (hvars:s.vars=[]) (hres:f.resultTypes=#[tb]) (htb:P.underlying tb=some .bool)
  (hspec:∀ ds:List (DataW H),ds.length=f.params.toList.length->s.fn H ds={ results:=[.lit (.bool true)],args:=ds }) (hv:∀ xs,ArgsT P n f.params.toList xs->Valid P k (xs.map fun x=>(false,x)) [.fv (.bool true)])
  {args:Array Value} {ds gs:List (DataW H)} {before:List MemPlace} (hval:∀ (j:Nat) t v,f.params[j]? = some t->args[j]? = some v->Value.okWide P W .any base t v)
  (hW:DataW.Whole enc P f.params.toList s.vars false W args.toList ds gs before) (hwt:(DataW.weightsEach P (f.params.toList++s.plain.varTypes P) (ds++gs)).all (·<=reachBytes)=true)
  (hgl:GlOk (fun b=>b < W.heap.size) W) :
  Calls P k args W fun e W'=>∃ v,e = .returned v/\s.post enc P f false true false false W args v W':=by
 have hW':=hW
 obtain ⟨p,q,hA,hV,rfl,hfz,hnd⟩:=hW
 rw [hvars] at hV
 obtain ⟨rfl,rfl⟩:=trodVars_none hV
 obtain ⟨hlen,xs,h1,h2,h3⟩:=args_open f.params.toList hd (fun j t v ht hv=>hval j t v (by simpa using ht) (by simpa using hv)) hA (fun m hm=>by
  have hlen:ds.length=f.params.toList.length:=trodAll_len hA
  have:=List.all_eq_true.1 hwt m (by rw [List.append_nil]; exact weights_app _ _ ds hm)
  simpa using this)
 have hcall:=hv xs h1 W (fun b=>b < W.heap.size) (fun b=>b < W.heap.size) args.toList (fun _ h=>h) (fun _ h=>h) (by simpa using h2.symm) (fun j x hj=>by
  simp only [List.getElem?_map,Option.map_eq_some_iff] at hj
  obtain ⟨y,hy,rfl⟩:=hj
  obtain ⟨v,hv,hr⟩:=h3 j y hy
  exact ⟨v,hv,by simpa [roF] using hr⟩) hgl
 simp only [Array.toArray_toList] at hcall
 refine hcall.mono fun e W' h=>?_
 obtain ⟨v,us,m,rfl,hb,hR⟩:=h
 refine ⟨v,rfl,?_⟩
 obtain ⟨u,hu,hc⟩:=hR.comp 0 _ rfl
 have hus:us=[u]:=by
  have:=hR.len
  match us,this with
  | [u'],_=>simp only [List.getElem?_cons_zero,Option.some.injEq] at hu; rw [hu]
 have hvu:v=u:=by rw [hR.val,hus]; rfl
 cases hc with
 | fv _ _ hx =>
 cases hx with
 | bool =>
 subst hvu
 have hs:=hspec ds hlen
 have hlt:∀ x∈p,x.block < W.heap.size:=fun x hx=>by simpa using hW'.lt x (List.mem_append_left _ hx)
 refine ⟨ds,[],p++[],[],p,[],hW',?_,?_,?_,hb.kit.frame _,fun h=>by cases h⟩
 ·rw [List.append_nil,hs,hres]
  exact trodAll_cons_mk (p:=[]) (p':=[]) (shut_bool htb _) trodAll_mk0
 ·rw [List.append_nil,hs]
  exact args_back hl hb _ hp hlt hA
 ·rw [List.append_nil,hs,hvars]
  rfl
end
structure Fam (P:Program) where
 k:FuncId
 α:Type
 f:α->List (Bool×FV)
 g:α->List TV
 inj:∀ a b,f a=f b->g a=g b
 ok:∀ a,Valid P k (f a) (g a)
 en:Enters P k
section
variable {P:Program}
open Classical in
noncomputable def famAt (F:Fam P) (xs:List (Bool×FV)):Option (List TV):=if h:∃ a,F.f a=xs then some (F.g (Classical.choose h)) else none
noncomputable def famCtx:List (Fam P)->FuncId->List (Bool×FV)->Option (List TV)
 | [],_,_=>none
 | F :: r,k,xs=>if F.k=k then famAt F xs else famCtx r k xs
theorem famAt_hit (F:Fam P) (a:F.α):famAt F (F.f a)=some (F.g a):=by
 unfold famAt
 have h:∃ b,F.f b=F.f a:=⟨a,rfl⟩
 rw [dif_pos h]
 exact congrArg some (F.inj _ _ (Classical.choose_spec h))
theorem famAt_ok {F:Fam P} {xs:List (Bool×FV)} {res:List TV} (h:famAt F xs=some res):Valid P F.k xs res/\Enters P F.k:=by
 unfold famAt at h
 split at h
 ·rename_i he
  simp only [Option.some.injEq] at h; subst h
  have hs:=Classical.choose_spec he
  refine ⟨?_,F.en⟩
  have:=F.ok (Classical.choose he)
  rw [hs] at this
  exact this
 ·cases h
theorem fam_ok:∀ {L:List (Fam P)} {k:FuncId} {xs:List (Bool×FV)} {res:List TV},famCtx L k xs=some res->Valid P k xs res/\Enters P k
 | [],_,_,_,h=>by simp [famCtx] at h
 | F :: r,k,xs,res,h=>by
  simp only [famCtx] at h
  split at h
  ·rename_i e; subst e; exact famAt_ok h
  ·exact fam_ok h
theorem fam_hit {F:Fam P} {r:List (Fam P)} {k:FuncId} {xs:List (Bool×FV)} {res:List TV} (a:F.α) (hk:F.k=k) (hf:F.f a=xs) (hg:F.g a=res):famCtx (F :: r) k xs=some res:=by
 subst hk hf hg
 simp only [famCtx,if_true]
 exact famAt_hit F a
theorem fam_at:∀ {L:List (Fam P)} {F:Fam P} {k:FuncId} {xs:List (Bool×FV)} {res:List TV} (h:L.find? (fun G=>G.k==k)=some F) (a:F.α) (hf:F.f a=xs) (hg:F.g a=res),famCtx L k xs=some res
 | [],F,k,xs,res,h,_,_,_=>by simp at h
 | G :: r,F,k,xs,res,h,a,hf,hg=>by
  simp only [List.find?_cons] at h
  split at h
  ·rename_i hk
   simp only [Option.some.injEq] at h; subst h
   exact fam_hit a (by simpa using hk) hf hg
  ·rename_i hk
   simp only [famCtx]
   rw [if_neg (by simpa using hk)]
   exact fam_at h a hf hg
end
theorem ints_inj {l m:List Int}:ints l=ints m↔l=m:=by
 constructor
 ·intro h
  induction l generalizing m with
  | nil=>cases m with
   | nil=>rfl
   | cons y m=>simp at h
  | cons x l ih=>cases m with
   | nil=>simp at h
   | cons y m =>
    simp only [ints_cons,List.cons.injEq,FV.int.injEq,true_and] at h
    obtain ⟨h1,h2⟩:=h
    rw [h1,ih h2]
 ·rintro rfl; rfl
section
variable {P:Program}
theorem IsT_int {n t:Nat} {k:IntKind} {fs:List FV} (ht:P.underlying t=some (.int k)) (h:IsT P (n+1) t fs):∃ m,fs=[.int k m]:=by
 have h:=h.h
 simp only [FVT,ht] at h
 exact h
theorem IsT_list {n t e:Nat} {fs:List FV} (ht:P.underlying t=some (.slice e)) (h:IsT P (n+1) t fs):∃ xs:List FV,fs=[.sl false (P.cellsOf e) xs]/\xs.length*P.bytesOf e<=reachBytes/\∀ x∈xs,(isStruct P e=true/\∃ gs,x = .agg gs/\IsT P n e gs)\/(isStruct P e=false/\IsT P n e [x]):=by
 have h:=h.h
 simp only [FVT,ht] at h
 obtain ⟨xs,h1,h2,h3⟩:=h
 refine ⟨xs,h1,h2,fun x hx=>?_⟩
 have h4:=h3 x hx
 cases hs:isStruct P e with
 | true =>
  rw [if_pos hs] at h4
  obtain ⟨gs,e1,e2⟩:=h4
  exact .inl ⟨rfl,gs,e1,⟨e2⟩⟩
 | false =>
  rw [if_neg (by simp [hs])] at h4
  exact .inr ⟨rfl,⟨h4⟩⟩
theorem IsT_pair {n t:Nat} {f0 f1:Field} {fs:List FV} (ht:P.underlying t=some (.struct #[f0,f1])) (h:IsT P (n+1) t fs):∃ g0 g1,fs=g0++g1/\IsT P n f0.type g0/\IsT P n f1.type g1:=by
 have h:=h.h
 simp only [FVT,ht] at h
 obtain ⟨gss,hl,rfl,hf⟩:=h
 match gss,hl with
 | [g0,g1],_=>exact ⟨g0,g1,by simp,⟨hf 0 f0 g0 rfl rfl⟩,⟨hf 1 f1 g1 rfl rfl⟩⟩
theorem IsT_str {n t:Nat} {fs:List FV} (ht:P.underlying t=some .string) (h:IsT P (n+1) t fs):∃ s:ByteArray,fs=[.str s]/\s.size<=reachBytes:=by
 have h:=h.h
 simp only [FVT,ht] at h
 exact h
theorem IsT_fields {n t:Nat} {fl:Array Field} {fs:List FV} (ht:P.underlying t=some (.struct fl)) (h:IsT P (n+1) t fs):∃ gss:List (List FV),gss.length=fl.toList.length/\fs=gss.flatten/\∀ (i:Nat) (f:Field) (g:List FV),fl.toList[i]? = some f->gss[i]? = some g->IsT P n f.type g:=by
 have h:=h.h
 simp only [FVT,ht] at h
 obtain ⟨gss,hl,e,hf⟩:=h
 exact ⟨gss,hl,e,fun i f g h1 h2=>⟨hf i f g h1 h2⟩⟩
theorem ArgsT_one {n t:Nat} {xs:List FV} (h:ArgsT P n [t] xs):∃ fs,xs=[argFV P t fs]/\IsT P n t fs:=by
 obtain ⟨fs,ys,h0,h1,h2⟩:=h
 have h2:ys=[]:=h2
 exact ⟨fs,by rw [h0,h2],h1⟩
theorem argFV_struct {t:Nat} (h:isStruct P t=true) (fs:List FV):argFV P t fs = .agg fs:=if_pos h
theorem argFV_one {t:Nat} (h:isStruct P t=false) (x:FV):argFV P t [x]=x:=by simp [argFV,h]
end
structure ValidC (P:Program) (k:FuncId) (g:FuncId) (sz:Nat) (xs ys:List FV):Prop where
 len:ys.length=xs.length
 ok:∀ (i:Nat) (x:FV),ys[i]? = some x->cellsOK sz x=true
 nil:xs=[]->∀ (w:World) (a:Option Addr) (cap:Nat),Calls P k #[.slice a 0 cap,.func (.func g) #[] #[]] w fun e w'=>e = .returned (.tuple #[])/\Below w.heap.size w w'
 run:xs≠[]->∀ (w:World) (Fz Fy:Nat->Prop) (b0 base:Nat) (c:Array Value) (e:TypeId) (cap:Nat),(∀ b,Fz b->Fy b)->(∀ b,Fy b->b < w.heap.size)->¬ Fy b0->GlOk Fz w->w.heap[b0]? = some (.cells c e (0,0))->xs.length<=cap->base+cap*sz<=c.size ->
  (∀ (i:Nat) (x:FV) (j:Nat) (y:FV),xs[i]? = some x->(cellsOf x)[j]? = some y->RepF Fz w y (c.getD (base+(i*sz+j)) undef)) ->
  Calls P k #[.slice (some ⟨b0,base,none⟩) xs.length cap,.func (.func g) #[] #[]] w fun ex w'=>ex = .returned (.tuple #[])/\BelowX { N:=0,B:=w.heap.size,w0:=w,Fz0:=Fz,X:=fun b=>b=b0 } w' ∧
   ∃ c':Array Value,w'.heap[b0]? = some (.cells c' e (0,0))/\c'.size=c.size/\∀ (i:Nat) (x:FV) (j:Nat) (y:FV),ys[i]? = some x->(cellsOf x)[j]? = some y->RepF Fz w' y (c'.getD (base+(i*sz+j)) undef)
theorem inl_of_sort {P : Program} {k g : FuncId} {sz : Nat} {xs ys : List FV} (hval : ValidC P k g sz xs ys) {σ : St} {s : Nat} (harr : lk s σ.blk = some (.arr sz xs)) (ro : Bool) :
    InlOK P k σ [.own s 0 xs.length,.fv ro (.fn (.func g) [] [])] { σ with blk := put s (.arr sz ys) σ.blk } [] := by
  intro C a w μ Fz Fy us h hl hr
  have hsne : lk s σ.blk ≠ none := by simp [harr]
  obtain ⟨u,hu,h0⟩ := hr 0 _ rfl
  obtain ⟨v,hv,h1⟩ := hr 1 _ rfl
  have hus : us = [u,v] := by
    match us,hl,hu,hv with
    | [a,b],_,hu,hv => simp at hu hv; rw [hu,hv]
  have hvf : v = .func (.func g) #[] #[] := by
    cases h1 with
    | fv _ _ _ hv =>
    cases hv with
    | fn _ _ _ vf vc hs hs' hr hr' =>
    rw [Array.eq_empty_of_size_eq_zero hs,Array.eq_empty_of_size_eq_zero hs']
  subst hus
  subst hvf
  have hshp : shp (.arr sz ys) = shp (.arr sz xs) := by simp [shp,hval.len]
  have hfin : ∀ (w' : World),Sim C { σ with blk := put s (.arr sz ys) σ.blk } a w' μ Fz Fy → ∃ rs M' μ' Fz' Fy',Ending.returned (Value.tuple #[]) = .returned (pack rs) ∧ More C M' ∧ Sim (C.withM M') { σ with blk := put s (.arr sz ys) σ.blk } a w' μ' Fz' Fy' ∧ rs.length = ([] : List V).length ∧ ∀ (j : Nat) (y : V),([] : List V)[j]? = some y → ∃ u,rs[j]? = some u ∧ RepV μ' (shs { σ with blk := put s (.arr sz ys) σ.blk }) Fz' Fy' w' y u :=
    fun w' hS => ⟨[],C.M,μ,Fz,Fy,rfl,More.refl C,hS,rfl,fun j y hj => by simp at hj⟩
  cases h0 with
  | ownx _ _ _ _ hx => exact (hsne (by simpa [shs] using hx)).elim
  | own _ _ _ ad cap sz' n' hsh hn hcap hm =>
  simp only [shs,harr,Option.map_some,shp,Option.some.injEq,Prod.mk.injEq] at hsh
  obtain ⟨rfl,rfl⟩ := hsh
  by_cases hnil : xs = []
  · subst hnil
    have hynil : ys = [] := List.length_eq_zero_iff.1 hval.len
    subst hynil
    refine (hval.nil rfl w ad cap).mono ?_
    rintro ex w' ⟨rfl,hbelow⟩
    refine hfin w' (Sim.upd' h harr hshp ?_ (.nil _))
    have hst := Stays.of_below h hbelow
    exact { keeps := hst.keeps,fixed := hst.fixed,own := fun t ht => hst.own t (by
      simp only [St.drop,lk_rm] at ht
      by_cases et : t = s
      · simp [et] at ht
      · simpa [et] using ht),below := hst.below,size := hst.size,rest := hst.rest,drawn := hst.drawn }
  · have hpos : 0 < xs.length := List.length_pos_iff.2 hnil
    have hB := h.blk s _ harr
    cases hB with
    | nil => exact absurd rfl hnil
    | arr _ _ b0 base c e hmb hh hc hcs hr' =>
    have hlive := h.live s hsne b0 base hmb
    rcases hm with hm | ⟨b1,base1,hm1,had,hroom⟩
    · omega
    · rw [hmb] at hm1
      simp only [Option.some.injEq,Prod.mk.injEq] at hm1
      obtain ⟨rfl,rfl⟩ := hm1
      simp only [Nat.zero_mul,Nat.add_zero,Nat.zero_add] at had hroom
      subst had
      obtain ⟨c1,e1',hh1,hroom⟩ := hroom
      rw [hh] at hh1
      simp only [Option.some.injEq,Obj.cells.injEq] at hh1
      obtain ⟨rfl,rfl,_⟩ := hh1
      refine (hval.run hnil w Fz Fy b0 base c e cap h.zy h.yl hlive.2.2 h.gl hh hcap hroom hr').mono ?_
      rintro ex w' ⟨rfl,hbelow,c',hh',hcs',hr''⟩
      refine hfin w' (Sim.upd' h harr hshp (stays_of_x h hsne hmb hbelow) ?_)
      exact .arr sz ys b0 base c' e hmb hh' (by rw [hval.len,hcs']; exact hc) hval.ok hr''
end Go.Proofs.YtejodhjhddnbeaaDoor.E
namespace Go.Proofs.YtejodhjhddnbeaaDoor.E
open Go Go.RowKit Go.Shelf Go.Sort
structure EncOk {α:Type} (encV:α->List Value) (encF:α->List FV) (k:Nat):Prop where
 len:∀ x,(encV x).length=k
 lenF:∀ x,(encF x).length=k
 one:∀ x,∀ v∈encV x,v.oneCell'=true
 flat:∀ x,∀ y∈encF x,flat1 y=true
 nag:∀ x,∀ y∈encF x,nagg y=true
 rep:∀ x j y,(encF x)[j]? = some y->∀ (Fz:Nat->Prop) (w:World),RepF Fz w y ((encV x).getD j undef)
 back:∀ x j y,(encF x)[j]? = some y->∀ (Fz:Nat->Prop) (w:World) v,RepF Fz w y v->v=(encV x).getD j undef
theorem grow_of_below {W w':World} (h:Below W.heap.size W w'):∃ q os',w'=grow (W.drewN q) os':=by
 refine ⟨w'.drawn-W.drawn,w'.heap.extract W.heap.size w'.heap.size,?_⟩
 have hh:w'.heap=W.heap++w'.heap.extract W.heap.size w'.heap.size:=by
  apply Array.ext_getElem?
  intro i
  rw [Array.getElem?_append]
  split
  ·rename_i hi; exact h.block i hi
  ·rename_i hi
   rw [Array.getElem?_extract]
   have hs:=h.size
   split
   ·rename_i h2
    congr 1; omega
   ·rename_i h2
    rw [Array.getElem?_eq_none]; omega
 have hd:=h.drawn
 obtain ⟨heap,tape,drawn,os,output⟩:=w'
 have h1:=h.os; have h2:=h.tape; have h3:=h.output
 simp only at h1 h2 h3 hh hd
 simp only [grow,World.drewN]
 rw [<-hh,h1,h2,h3]
 congr 1
 omega
section
variable {P:Program} {ρ:Ren} {α:Type} [Inhabited α] {encV:α->List Value} {encF:α->List FV} {k:Nat}
theorem sortWorldK_block {w:World} {blk off m:Nat} {dk:Array α} {os:Array Obj} {b:Nat} (hb:b < w.heap.size) (hne:b≠blk):(sortWorldK encV k w blk off m dk os).heap[b]? = w.heap[b]?:=by
 simp [sortWorldK,grow,putRowK,putRow,mapBlock,Sort.ahead,Array.getElem?_append,hb,Array.getElem?_modify,Array.getElem_modify,Ne.symm hne]
theorem sortWorldK_size {w:World} {blk off m:Nat} {dk:Array α} {os:Array Obj}:w.heap.size<=(sortWorldK encV k w blk off m dk os).heap.size:=by
 simp [sortWorldK,grow,putRowK,putRow,mapBlock,Sort.ahead]
theorem cmpLays_of_valid (hE:EncOk encV encF k) {g:Nat} {cf:α->α->Int} (hv:∀ x y,Valid P g [(false,.agg (encF x)),(false,.agg (encF y))] [.fv (.int .i64 (cf x y))]) {blk off size:Nat} {w:World} {Fz:Nat->Prop} (hgl:GlOk Fz w) (hz:∀ b,Fz b->b < w.heap.size/\b≠blk) :
  CmpLays P g #[] encV k cf blk off size w:=by
 intro m os dk hs x y
 have hblk:∀ b,Fz b->(sortWorldK encV k w blk off m dk os).heap[b]? = w.heap[b]?:=fun b hb=>sortWorldK_block (hz b hb).1 (hz b hb).2
 have hsz:w.heap.size<=(sortWorldK encV k w blk off m dk os).heap.size:=sortWorldK_size
 generalize sortWorldK encV k w blk off m dk os=W at hblk hsz ⊢
 have hrep:∀ x,RepF (roF Fz Fz false) W (.agg (encF x)) (.agg (encV x).toArray):=fun x=>.agg _ _ (by simp [hE.len,hE.lenF]) fun j z hj=>by
  have:=hE.rep x j z hj (roF Fz Fz false) W
  simpa [Array.getD_eq_getD_getElem?,List.getD_eq_getElem?_getD] using this
 have h:=hv x y W Fz Fz [.agg (encV x).toArray,.agg (encV y).toArray] (fun _ h=>h) (fun b hb=>Nat.lt_of_lt_of_le (hz b hb).1 hsz) rfl (fun j p hj=>by
  match j,hj with
  | 0,hj=>simp only [List.getElem?_cons_zero,Option.some.injEq] at hj; subst hj; exact ⟨_,rfl,hrep x⟩
  | 1,hj=>simp only [List.getElem?_cons_succ,List.getElem?_cons_zero,Option.some.injEq] at hj; subst hj; exact ⟨_,rfl,hrep y⟩
  | j+2,hj=>simp at hj) (hgl.mono (fun _ h=>h) hblk)
 refine Calls.mono h ?_
 rintro e w' ⟨v,us,mm,rfl,hb,hR⟩
 obtain ⟨u,hu,hc⟩:=hR.comp 0 _ rfl
 have hus:us=[u]:=by
  have:=hR.len
  match us,this with
  | [u'],_=>simp only [List.getElem?_cons_zero,Option.some.injEq] at hu; rw [hu]
 have hvu:v=u:=by rw [hR.val,hus]; rfl
 cases hc with
 | fv _ _ hx =>
 cases hx with
 | int =>
 subst hvu
 exact ⟨rfl,grow_of_below hb⟩
theorem sortWorldK_row {w:World} {blk off m:Nat} {dk:Array α} {os:Array Obj} {c:Array Value} {e:TypeId} (hh:w.heap[blk]? = some (.cells c e (0,0))):(sortWorldK encV k w blk off m dk os).heap[blk]? = some (.cells (putCells id off (flatK encV k dk) c) e (0,0)):=by
 have hb:blk < w.heap.size:=(Array.getElem?_eq_some_iff.1 hh).1
 have h2:=(Array.getElem?_eq_some_iff.1 hh).2
 simp [sortWorldK,grow,putRowK,putRow,mapBlock,Sort.ahead,Array.getElem?_append,hb,Array.getElem?_modify,Array.getElem_modify,h2,onCells]
theorem flatK_get (hE:EncOk encV encF k) {d:Array α} {i j:Nat} (hi:i < d.size) (hj:j < k):(flatK encV k d)[i*k+j]! = (encV d[i]!).getD j undef:=by
 have hlt:i*k+j < d.size*k:=by
  have:=Nat.mul_le_mul_right k (show i+1<=d.size from hi)
  rw [Nat.add_mul,Nat.one_mul] at this
  omega
 have hk0:0 < k:=by omega
 rw [get_flatK _ _ _ _ hlt]
 have e1:(i*k+j) / k=i:=by rw [Nat.mul_comm,Nat.mul_add_div hk0,Nat.div_eq_of_lt hj]; rfl
 have e2:(i*k+j) % k=j:=by rw [Nat.mul_comm,Nat.mul_add_mod,Nat.mod_eq_of_lt hj]
 rw [e1,e2]
 have h:=hE.len d[i]!
 rw [getElem!_pos _ j (by omega)]
 simp [h,hj]
theorem validC_of_kit (L:SlLaysF0.n6 P ρ) (hE:EncOk encV encF k) (hk0:0 < k) (aE:∀ w,(isAgg (ρ.t 24)).run P w = .ok true w) (zE:∀ w,(Go.sizeOf (ρ.t 24)).run P w = .ok k w) (cf:α->α->Int) (hO:SWO (ltOf cf)) (g:Nat)
  (eg:∀ args w,(callFunc g args).run P w = .ok (.enter g args) w) (hv:∀ x y,Valid P g [(false,.agg (encF x)),(false,.agg (encF y))] [.fv (.int .i64 (cf x y))]) {l ys:List α} (hl:l.length < 4611686018427387904)
  (huniq:∀ d':Array α,PermIn 0 l.toArray.size l.toArray d'->SortedIn (ltOf cf) 0 l.toArray.size d'->d'=ys.toArray) (hlen:ys.length=l.length) :
  ValidC P (ρ.f 6) g k (l.map fun x=>.agg (encF x)) (ys.map fun x=>.agg (encF x)):=by
 refine { len:=by simp [hlen],ok:=fun i x hx=>?_,nil:=fun hn w a cap=>?_,run:=fun hne w Fz Fy b0 base c e cap hzy hyl hb0 hgl hh hlc hcap hr=>?_ }
 ·simp only [List.getElem?_map,Option.map_eq_some_iff] at hx
  obtain ⟨y,_,rfl⟩:=hx
  simp only [cellsOK,cellsOf,hE.lenF,beq_self_eq_true,Bool.true_and,List.all_eq_true]
  exact hE.nag y
 ·refine (AnyF.slices_SortFunc_none L a cap (.func (.func g) #[] #[]) w).mono ?_
  rintro e w' ⟨rfl,rfl⟩
  exact ⟨rfl,Below.refl _ _⟩
 ·simp only [List.length_map] at hlc
  have hb:b0 < w.heap.size:=(Array.getElem?_eq_some_iff.1 hh).1
  have hbnd:∀ i j,i < l.length->j < k->base+(i*k+j) < c.size:=fun i j hi hj=>by
   have h1:=Nat.mul_le_mul_right k (show i+1<=cap by omega)
   rw [Nat.add_mul,Nat.one_mul] at h1
   omega
  have hget:∀ i j,i < l.length->j < k->c.getD (base+(i*k+j)) undef=(encV l.toArray[i]!).getD j undef:=fun i j hi hj=>by
   have hx:(l.map fun x=>FV.agg (encF x))[i]? = some (.agg (encF l[i])):=by simp [hi]
   have hjl:j < (encF l[i]).length:=by rw [hE.lenF]; exact hj
   have hy:(encF l[i])[j]? = some (encF l[i])[j]:=List.getElem?_eq_getElem hjl
   have h1:=hE.back l[i] j _ hy _ _ _ (hr i _ j _ hx hy)
   rw [h1]
   simp [hi]
  have hH:HoldsK encV k w b0 base l.toArray:=fun t ht=>by
   simp only [size_flatK,List.size_toArray] at ht
   have hi:t / k < l.length:=Nat.div_lt_of_lt_mul (by rw [Nat.mul_comm]; exact ht)
   have hj:t % k < k:=Nat.mod_lt _ hk0
   have e:t / k*k+t % k=t:=by rw [Nat.mul_comm]; exact Nat.div_add_mod t k
   have h1:=hbnd _ _ hi hj
   have h2:=hget _ _ hi hj
   have h3:=flatK_get hE (d:=l.toArray) (i:=t / k) (j:=t % k) (by simpa using hi) hj
   rw [e] at h1 h2 h3
   refine ⟨?_,?_⟩
   ·simp only [World.cell?,hh,id]
    rw [h3,<-h2]
    simp [Array.getD_eq_getD_getElem?,h1]
   ·simp [World.frozen?,hh]
  have hcall:=AnyQ.slices_SortFunc L k aE zE encV hE.len hE.one cf hO g #[] b0 base cap l.toArray w eg (cmpLays_of_valid hE hv hgl fun b hb'=>⟨hyl b (hzy b hb'),fun e=>hb0 (e▸hzy b hb')⟩) hH hb (by simpa using hl)
  simp only [List.size_toArray] at hcall
  rw [List.length_map]
  refine Calls.mono hcall ?_
  rintro ex w' ⟨rfl,d',n,os,hp,hs,rfl⟩
  obtain rfl:=huniq d' (by simpa using hp) (by simpa using hs)
  have hrow:=sortWorldK_row (encV:=encV) (k:=k) (off:=base) (m:=n) (dk:=ys.toArray) (os:=os) hh
  have hpsz:(putCells id base (flatK encV k ys.toArray) c).size=c.size:=by simp [putCells]
  refine ⟨rfl,⟨rfl,rfl,rfl,sortWorldK_size,fun b hb1 hb2=>sortWorldK_block hb1 hb2,fun b c1 e1 fr1 hx hb1 hc1=>?_,?_⟩,_,hrow,hpsz,fun i x j y hx hy=>?_⟩
  ·subst hx
   have hc1':w.heap[b]? = some (.cells c1 e1 fr1):=hc1
   rw [hh] at hc1'
   simp only [Option.some.injEq,Obj.cells.injEq] at hc1'
   obtain ⟨rfl,rfl,rfl⟩:=hc1'
   exact ⟨_,hrow,hpsz⟩
  ·show w.drawn<=w.drawn+n
   omega
  ·simp only [List.getElem?_map,Option.map_eq_some_iff] at hx
   obtain ⟨z,hz,rfl⟩:=hx
   have hil:i < ys.length:=(List.getElem?_eq_some_iff.1 hz).1
   have hjk:j < k:=by have:=(List.getElem?_eq_some_iff.1 hy).1; rwa [show cellsOf (.agg (encF z))=encF z from rfl,hE.lenF] at this
   have h1:=hbnd i j (by omega) hjk
   have h2:=flatK_get hE (d:=ys.toArray) (i:=i) (j:=j) (by simpa using hil) hjk
   have hlt:i*k+j < (flatK encV k ys.toArray).size:=by
    have:=Nat.mul_le_mul_right k (show i+1<=ys.length from hil)
    rw [Nat.add_mul,Nat.one_mul] at this
    simp only [size_flatK,List.size_toArray]
    omega
   have hval:(putCells id base (flatK encV k ys.toArray) c).getD (base+(i*k+j)) undef=(encV z).getD j undef:=by
    have hz':ys.toArray[i]! = z:=by
     rw [List.getElem?_eq_some_iff] at hz
     obtain ⟨h,e⟩:=hz
     simp [h,e]
    rw [hz'] at h2
    rw [<-h2]
    simp only [putCells,Array.getD_eq_getD_getElem?,Array.getElem?_mapIdx,Array.getElem?_eq_getElem h1,Option.map_some,Option.getD_some]
    rw [if_pos ⟨by omega,by omega⟩]
    simp only [id]
    congr 1
    omega
   rw [hval]
   exact hE.rep z j y hy _ _
end
def witV (t:Nat):Blk->V
 | .box _=>.ptr t 0
 | .mp _=>.map t
 | .arr _ xs=>.own t 0 xs.length
 | _=>.top
def witE:Nat->List (Nat×Blk)->List (Nat×V)
 | _,[]=>[]
 | j,(t,b) :: r=>(j,witV t b) :: witE (j+1) r
def tinyH (bs:List (Nat×Blk)):St:=⟨witE 0 bs,bs,[]⟩
theorem lk_witE:∀ {bs:List (Nat×Blk)} {j k:Nat} {v:V},lk k (witE j bs)=some v->∃ (i t:Nat) (b:Blk),bs[i]? = some (t,b)/\k=j+i/\v=witV t b
 | [],_,_,_,h=>by simp [witE,lk] at h
 | (t,b) :: r,j,k,v,h=>by
  simp only [witE,lk] at h
  split at h
  ·rename_i e
   simp only [Option.some.injEq] at h
   exact ⟨0,t,b,rfl,by omega,h.symm⟩
  ·obtain ⟨i,t',b',h1,h2,h3⟩:=lk_witE h
   exact ⟨i+1,t',b',by simpa using h1,by omega,h3⟩
theorem lk_entry:∀ {bs:List (Nat×Blk)} {t:Nat} {b:Blk},lk t bs=some b->∃ i:Nat,bs[i]? = some (t,b)
 | [],_,_,h=>by simp [lk] at h
 | (t',b') :: r,t,b,h=>by
  simp only [lk] at h
  split at h
  ·rename_i e
   simp only [Option.some.injEq] at h
   subst h; subst e
   exact ⟨0,rfl⟩
  ·obtain ⟨i,hi⟩:=lk_entry h
   exact ⟨i+1,by simpa using hi⟩
def plain:Blk->Bool
 | .box _=>true
 | .mp _=>true
 | .arr _ _=>true
 | _=>false
theorem wit_rep {μ sh:Mu} {Fz Fy:Nat->Prop} {w:World} {t:Nat} {b:Blk} (hsh:sh t=some (shp b)) (h:RepB μ sh Fz Fy w t b):∃ u,RepV μ sh Fz Fy w (witV t b) u:=by
 cases h with
 | nil sz=>exact ⟨.slice none 0 0,.own t 0 0 none 0 sz 0 (by simpa [shp] using hsh) (Nat.le_refl _) (Nat.le_refl _) (.inl rfl)⟩
 | arr sz xs r base c e hm hh hc hsz hr=>exact ⟨.slice (some ⟨r,base,none⟩) xs.length xs.length,.own t 0 xs.length (some ⟨r,base,none⟩) xs.length sz xs.length (by simpa [shp] using hsh) (by omega) (Nat.le_refl _) (.inr ⟨r,base,hm,by simp,⟨c,e,hh,by simpa using hc⟩⟩)⟩
 | box cells r c e hm hh hc hr=>exact ⟨.pointer (some ⟨r,0+0,none⟩),.ptr t 0 r 0 hm⟩
 | mp es r c hm hh hc hr=>exact ⟨.map (some r),.map t r 0 hm⟩
 | _=>exact ⟨undef,.top _⟩
theorem wit_agree {μ sh μ' sh':Mu} {Fz Fy Fz' Fy':Nat->Prop} {w w':World} {t:Nat} {b b':Blk} (hb:RepB μ sh Fz Fy w t b) (hb':RepB μ' sh' Fz' Fy' w' t b') (hp:plain b=true) (hw:witV t b'=witV t b) (hsh:sh t=some (shp b)) (hsh':sh' t=some (shp b')) (hne:∀ sz,b≠.arr sz []) {u:Value} (h:RepV μ sh Fz Fy w (witV t b) u) (h':RepV μ' sh' Fz' Fy' w' (witV t b) u):μ' t=μ t:=by
 cases b with
 | box cells =>
  simp only [witV] at h h' hw
  cases h with
  | ptrx _ _ _ hx=>rw [hsh] at hx; cases hx
  | ptr _ _ r base hm =>
  cases h' with
  | ptrx _ _ _ hx=>rw [hsh'] at hx; cases hx
  | ptr _ _ r' base' hm'=>rw [hm,hm']
 | mp es =>
  simp only [witV] at h h' hw
  cases hb with
  | mp _ r0 c hm0 _ _ _ =>
  cases b' with
  | mp es' =>
   cases hb' with
   | mp _ r1 c' hm1 _ _ _ =>
   cases h with
   | mapx _ _ hx=>rw [hsh] at hx; cases hx
   | map _ r base hm =>
   cases h' with
   | mapx _ _ hx=>rw [hsh'] at hx; cases hx
   | map _ r' base' hm' =>
    rw [hm0] at hm
    rw [hm1] at hm'
    simp only [Option.some.injEq,Prod.mk.injEq] at hm hm'
    rw [hm0,hm1,hm.1,hm'.1]
  | box _=>simp [witV] at hw
  | arr _ _=>simp [witV] at hw
  | lst _ _ _=>simp [witV] at hw
  | mit _ _ _ _=>simp [witV] at hw
 | arr sz xs =>
  simp only [witV] at h h' hw
  cases xs with
  | nil=>exact absurd rfl (hne sz)
  | cons x r0 =>
  cases h with
  | ownx _ _ _ _ hx=>rw [hsh] at hx; cases hx
  | own _ _ _ ad cap sz1 n1 hs hn hc hm =>
  cases h' with
  | ownx _ _ _ _ hx=>rw [hsh'] at hx; cases hx
  | own _ _ _ ad' cap' sz2 n2 hs' hn' hc' hm' =>
  simp only [List.length_cons] at hc hc'
  rcases hm with hm | ⟨r1,base1,e1,e2,_⟩
  ·omega
  rcases hm' with hm' | ⟨r2,base2,e3,e4,_⟩
  ·omega
  rw [e2] at e4
  simp only [Nat.zero_mul,Nat.add_zero,Option.some.injEq,Addr.mk.injEq,and_true] at e4
  rw [e1,e3,e4.1,e4.2]
 | lst _ _ _=>simp [plain] at hp
 | mit _ _ _ _=>simp [plain] at hp
theorem list_wit {α:Type} {R:α->Value->Prop}:∀ {l:List α},(∀ x∈l,∃ u,R x u)->∃ us:List Value,us.length=l.length/\∀ (i:Nat) (x:α),l[i]? = some x->∃ u,us[i]? = some u/\R x u
 | [],_=>⟨[],rfl,fun i x h=>by simp at h⟩
 | y :: r,h=>by
  obtain ⟨us,h1,h2⟩:=list_wit (l:=r) fun x hx=>h x (List.mem_cons_of_mem _ hx)
  obtain ⟨u,hu⟩:=h y List.mem_cons_self
  refine ⟨u :: us,by simp [h1],fun i x hx=>?_⟩
  cases i with
  | zero=>simp only [List.getElem?_cons_zero,Option.some.injEq] at hx; subst hx; exact ⟨u,rfl,hu⟩
  | succ i=>exact h2 i x (by simpa using hx)
section
variable {P:Program} {k:FuncId} {bs:List (Nat×Blk)} {τ' σ σ':St} {args args0 vs:List V} {f g:Nat->Option Nat}
structure Hands (bs:List (Nat×Blk)) (τ' σ σ':St) (f g:Nat->Option Nat):Prop where
 size:bs.length<=90000
 plain:∀ (i t:Nat) (b:Blk),bs[i]? = some (t,b)->plain b=true/\lk t bs=some b
 gi:∀ s s' t,g s=some t->g s'=some t->s=s'
 gY:∀ s,g s≠some YN
 gf:∀ s t,g s=some t->f t=some s
 fi:∀ t t' s,f t=some s->f t'=some s->t=t'
 fY:∀ t,f t≠some YN
 tiny:∀ t,lk t bs=lk t (σ.mapN g).blk
 back:∀ (i t:Nat) (b:Blk),bs[i]? = some (t,b)->lk i τ'.env=some (witV t b)/\∃ b',lk t τ'.blk=some b'/\witV t b'=witV t b/\shp b'=shp b
 env:σ'.env=σ.env
 tr:σ'.tr=σ.tr
 blk1:∀ s t,f t=some s->lk t τ'.blk≠none->lk s σ'.blk=(lk t τ'.blk).map (mapB (onLive τ' f))
 blk2:∀ s,(∀ t,f t=some s->lk t τ'.blk=none)->lk s σ'.blk=lk s σ.blk
 new:∀ s t,f t=some s->lk t τ'.blk≠none->(∀ b,lk t bs=some b->∃ sz,b = .arr sz [])->(∀ k v,lk k σ.env=some v->∃ n,ment n s v=false)/\∀ s' b,lk s' σ.blk=some b->∀ y∈bcells b,∃ n,ment n s y=false
 fresh:∀ s t,f t=some s->lk t τ'.blk≠none->lk t bs=none->lk s σ.blk=none
 yf:∀ t b,lk t τ'.blk=some b->(bcells b).all (yfree 6)=true
 yn:lk YN τ'.blk=none
theorem inl_hand (hin:InlOK P k (tinyH bs) args0 τ' vs) (H:Hands bs τ' σ σ' f g) (hargs:args.map (mapV (onLive σ g) 6)=args0) (hvs:vs.all (yfree 6)=true):InlOK0 P k σ args σ' (vs.map (mapV (onLive τ' f) 6)):=by
 classical
 intro C a w μ Fz Fy us hS hl hr
 obtain ⟨μg,hSg,hrep,hwho⟩:=hS.mapN H.gi H.gY
 have hshs:shs (tinyH bs)=shs (σ.mapN g):=funext fun t=>by simp only [shs,tinyH,H.tiny t]
 have hent:∀ (i t:Nat) (b:Blk),bs[i]? = some (t,b)->lk t (σ.mapN g).blk=some b:=fun i t b hi=>by rw [<-H.tiny t]; exact (H.plain i t b hi).2
 obtain ⟨us0,hus0,hwit⟩:=list_wit (R:=fun e u=>RepV μg (shs (σ.mapN g)) Fz Fy w (witV e.1 e.2) u) (l:=bs) fun e he=>by
  obtain ⟨i,hi⟩:=List.mem_iff_getElem?.1 he
  have hb:=hent i e.1 e.2 hi
  exact wit_rep (by simp [shs,hb]) (hSg.blk e.1 e.2 hb)
 let C0:Base:={ N:=bs.length,B:=w.heap.size,w0:=w,Fz0:=Fz,X:=fun r=>∃ t,lk t bs≠none/\∃ base,μg t=some (r,base),Fy0:=Fy }
 let a0:Act:={ tmps:=us0.toArray,defers:=[] }
 have hget:∀ i,i < bs.length->C0.get a0 i=us0.getD i undef:=fun i hi=>by
  have:i < GH:=by have:=H.size; simp only [GH]; omega
  simp [Base.get,this,a0,List.getD_eq_getElem?_getD]
 have hSim:Sim C0 (tinyH bs) a0 w μg Fz Fy:=by
  refine { defers:=fun d hd=>by simp [a0] at hd,dist:=.nil,size:=by simp [a0,C0,hus0],small:=H.size,env:=fun k v hk=>⟨trivial,?_⟩,blk:=fun t b hb'=>?_,live:=fun t ht b base hm=>?_,inj:=fun t u ht hu=>hSg.inj t u (by rw [<-H.tiny t]; exact ht) (by rw [<-H.tiny u]; exact hu),zy:=hS.zy,yl:=hS.yl,gl:=hS.gl,z0:=fun b hb=>.inl hb,y0:=fun b hb=>.inl hb,below:=BelowX.refl _ (Nat.le_refl _),big:=Nat.le_refl _,fm:=fun b hb=>hb.elim,yd:=fun y hy=>(by cases hy),mm:=fun b hb=>hb.elim,lp:=fun _ e=>(by cases e) }
  ·obtain ⟨i,t,b,h1,h2,rfl⟩:=lk_witE hk
   have hi:i < bs.length:=(List.getElem?_eq_some_iff.1 h1).1
   obtain ⟨u,hu,hru⟩:=hwit i _ h1
   rw [hshs,show k=i by omega,hget i hi,List.getD_eq_getElem?_getD,hu]
   exact hru
  ·rw [hshs]
   exact hSg.blk t b (by rw [<-H.tiny t]; exact hb')
  ·have:=hSg.live t (by rw [<-H.tiny t]; exact ht) b base hm
   exact ⟨.inr ⟨t,ht,base,hm⟩,this.2⟩
 refine (hin C0 a0 w μg Fz Fy us hSim (by rw [<-hargs]; simpa using hl) (fun j y hj=>?_)).mono ?_
 ·rw [<-hargs,List.getElem?_map,Option.map_eq_some_iff] at hj
  obtain ⟨y0,hy0,rfl⟩:=hj
  obtain ⟨u,hu,hru⟩:=hr j y0 hy0
  exact ⟨u,hu,hshs▸hrep 6 y0 u hru⟩
 rintro ex w' ⟨rs,M',μ',Fz',Fy',rfl,hM,hS',hrl,hrr⟩
 have hbel:=hS'.below
 have hB:w.heap.size<=w'.heap.size:=hbel.size
 have hlive:∀ (i t:Nat) (b:Blk),bs[i]? = some (t,b)->lk t τ'.blk≠none:=fun i t b hi=>by
  obtain ⟨_,b',hb',_⟩:=H.back i t b hi
  simp [hb']
 have hliveT:∀ t,lk t bs≠none->lk t τ'.blk≠none:=fun t ht=>by
  cases hb:lk t bs with
  | none=>exact absurd hb ht
  | some b =>
   obtain ⟨i,hi⟩:=lk_entry hb
   exact hlive i t b hi
 have hXs:∀ r,C0.X r->∃ s t,lk s σ.blk≠none/\f t=some s/\lk t τ'.blk≠none/\∃ base,μ s=some (r,base):=fun r ⟨t,ht,base,hm⟩=>by
  obtain ⟨s,hs,hgs,hms⟩:=hwho t (by rw [<-H.tiny t]; exact ht)
  exact ⟨s,t,hs,H.gf s t hgs,hliveT t ht,base,hms▸hm⟩
 have hXC:∀ r,C0.X r->C.mine r/\r < w.heap.size/\¬ Fy r:=fun r hx=>by
  obtain ⟨s,t,hs,_,_,base,hm⟩:=hXs r hx
  exact hS.live s hs r base hm
 have hmine:∀ r,C0.mine r->C.mine r/\¬ Fy r:=fun r hr=>by
  rcases hr with hr | hr
  ·exact ⟨.inl (Nat.le_trans hS.big hr),fun hf=>by have:=hS.yl r hf; have:w.heap.size<=r:=hr; omega⟩
  ·exact ⟨(hXC r hr).1,(hXC r hr).2.2⟩
 have hsame:∀ r,r < w.heap.size->¬ C0.X r->w'.heap[r]? = w.heap[r]?:=fun r hr hx=>hbel.block r hr hx
 have hfy:∀ r,Fy r->w'.heap[r]? = w.heap[r]?:=fun r hf=>hsame r (hS.yl r hf) fun hx=>(hXC r hx).2.2 hf
 have hfz:∀ r,Fz r->w'.heap[r]? = w.heap[r]?:=fun r hf=>hfy r (hS.zy r hf)
 have hkeep:Keeps w w':=fun r c e fr hb=>by
  have hbl:=(Array.getElem?_eq_some_iff.1 hb).1
  by_cases ho:C0.X r
  ·exact hbel.kept r c e fr ho hbl hb
  ·exact ⟨c,(hsame r hbl ho).trans hb,rfl⟩
 have hag:∀ (i t:Nat) (b:Blk),bs[i]? = some (t,b)->(∀ sz,b≠.arr sz [])->μ' t=μg t:=fun i t b hi hne=>by
  obtain ⟨e1,b',hb',e2,e3⟩:=H.back i t b hi
  have hi':i < bs.length:=(List.getElem?_eq_some_iff.1 hi).1
  obtain ⟨u,hu,hru⟩:=hwit i _ hi
  have hlk:=hent i t b hi
  have henv:=(hS'.env i _ e1).2
  rw [show (C0.withM M').get a0 i=C0.get a0 i from rfl,hget i hi',List.getD_eq_getElem?_getD,hu] at henv
  exact wit_agree (hSg.blk t b hlk) (hS'.blk t b' hb') (H.plain i t b hi).1 e2 (by simp [shs,hlk]) (by simp [shs,hb']) hne hru henv
 obtain ⟨μ2,hμ2⟩:∃ μ2:Mu,μ2=fun s=>if hx:∃ t,f t=some s/\lk t τ'.blk≠none then μ' hx.choose else μ s:=⟨_,rfl⟩
 have hμf:∀ s t,f t=some s->lk t τ'.blk≠none->μ2 s=μ' t:=fun s t h1 h2=>by
  have hx:∃ t,f t=some s/\lk t τ'.blk≠none:=⟨t,h1,h2⟩
  rw [hμ2]
  simp only [hx,dite_true]
  rw [H.fi _ _ _ hx.choose_spec.1 h1]
 have hμn:∀ s,(¬ ∃ t,f t=some s/\lk t τ'.blk≠none)->μ2 s=μ s:=fun s hx=>by
  rw [hμ2]; simp only [hx,dite_false]
 have hblkn:∀ s,(¬ ∃ t,f t=some s/\lk t τ'.blk≠none)->lk s σ'.blk=lk s σ.blk:=fun s hx=>H.blk2 s fun t ht=>Classical.byContradiction fun h=>hx ⟨t,ht,h⟩
 have hYN:μ2 YN=μ YN:=hμn YN fun ⟨t,ht,_⟩=>H.fY t ht
 let D:Nat->Prop:=fun s=>∃ t,f t=some s/\lk t τ'.blk≠none/\∀ b,lk t bs=some b->∃ sz,b = .arr sz []
 have hagree:∀ s,¬ D s->shs σ' s=none\/(shs σ' s=shs σ s/\μ2 s=μ s):=fun s hD=>by
  by_cases hx:∃ t,f t=some s/\lk t τ'.blk≠none
  ·obtain ⟨t,h1,h2⟩:=hx
   have h3:¬ ∀ b,lk t bs=some b->∃ sz,b = .arr sz []:=fun h=>hD ⟨t,h1,h2,h⟩
   simp only [Classical.not_forall,not_exists] at h3
   obtain ⟨b,hb,hne⟩:=h3
   obtain ⟨i,hi⟩:=lk_entry hb
   obtain ⟨_,b',hb',_,e3⟩:=H.back i t b hi
   have hb2:lk t (σ.mapN g).blk=some b:=by rw [<-H.tiny t]; exact hb
   obtain ⟨s0,hs0,hgs,hms⟩:=hwho t (by simp [hb2])
   have:s0=s:=by have:=H.gf s0 t hgs; rw [h1] at this; simpa using this.symm
   subst this
   refine .inr ⟨?_,?_⟩
   ·simp only [shs,H.blk1 s0 t h1 h2,hb',Option.map_some,mapB,shp_bmapB,e3]
    have e4:lk t (σ.mapN g).blk=(lk s0 σ.blk).map (mapB (onLive σ g)):=lk_mapBlk H.gi hgs
    rw [hb2] at e4
    cases hq:lk s0 σ.blk with
    | none=>exact absurd hq hs0
    | some b0 =>
     rw [hq] at e4
     simp only [Option.map_some,Option.some.injEq] at e4
     rw [e4]
     simp only [Option.map_some,shp_mapB]
   ·rw [hμf s0 t h1 h2,hag i t b hi (fun sz e=>hne sz e),hms]
  ·exact .inr ⟨by simp only [shs,hblkn s hx],hμn s hx⟩
 let Fz2:Nat->Prop:=fun r=>Fz r\/Fz' r
 let Fy2:Nat->Prop:=fun r=>Fy r\/Fy' r
 let μ0:Mu:=fun t=>if t=YN then none else μ' t
 have hμ0:∀ t,t≠YN->μ0 t=μ' t:=fun t ht=>by simp [μ0,ht]
 have hshY:shs τ' YN=none:=shs_none H.yn
 have hmapg:∀ t s,onLive τ' f t=some s->shs σ' s=shs τ' t/\μ2 s=μ0 t/\shs τ' t≠none:=fun t s e=>by
  unfold onLive at e
  split at e
  ·rename_i hp
   have hs:lk t τ'.blk≠none:=fun e'=>by simp [pres,e'] at hp
   have hne:t≠YN:=fun e'=>hs (e'▸H.yn)
   refine ⟨?_,by rw [hμf s t e hs,hμ0 t hne],pres_sh hp⟩
   simp only [shs,H.blk1 s t e hs,Option.map_map]
   congr 1
   funext b; exact shp_mapB _ b
  ·cases e
 have hval:∀ (n:Nat) {x:V} {v:Value},RepV μ0 (shs τ') Fz2 Fy2 w' x v->RepV μ2 (shs σ') Fz2 Fy2 w' (mapV (onLive τ' f) n x) v:=fun n {x v} h=>mapV_sound (fun l hl=>by simp [μ0] at hl) hmapg n h
 refine ⟨rs,μ2,Fz2,Fy2,rfl,?_,by simp [hrl],fun j y hj=>?_⟩
 ·have hnot:∀ s r base,(¬ ∃ t,f t=some s/\lk t τ'.blk≠none)->lk s σ.blk≠none->μ s=some (r,base)->¬ C0.X r:=fun s r base hx hs hm hX=>by
   obtain ⟨s',t,hs',hft,ht,base',hm'⟩:=hXs r hX
   have hne:s≠s':=fun e=>hx ⟨t,e▸hft,ht⟩
   exact hS.inj s s' hs hs' hne r base r base' hm hm' rfl
  have hMX:∀ r,C.M r->¬ C0.X r:=fun r hr hX=>by
   obtain ⟨s',t,hs',hft,ht,base',hm'⟩:=hXs r hX
   exact (hS.fm r hr).2.2 s' hs' base' hm'
  have hFyM:∀ r,r < w.heap.size->¬ C0.X r->¬ Fy r->¬ Fy2 r:=fun r h1 h2 h3 h4=>by
   rcases h4 with h4 | h4
   ·exact h3 h4
   ·rcases hS'.y0 r h4 with h5 | h5 | h5
    ·exact h3 h5
    ·have:w.heap.size<=r:=h5
     omega
    ·exact h2 h5
  have hbelow:BelowX C w':=by
   have hb:=hS.below
   refine ⟨hbel.os.trans hb.os,hbel.tape.trans hb.tape,hbel.output.trans hb.output,Nat.le_trans hb.size hB,fun r hr hx=>?_,fun r c e fr hx hr hc=>?_,Nat.le_trans hb.drawn hbel.drawn⟩
   ·refine (hsame r (Nat.lt_of_lt_of_le hr hS.big) fun hX=>?_).trans (hb.block r hr hx)
    rcases (hXC r hX).1 with h1 | h1
    ·omega
    ·exact hx h1
   ·obtain ⟨c1,e1,e2⟩:=hb.kept r c e fr hx hr hc
    obtain ⟨c2,e3,e4⟩:=hkeep r c1 e fr e1
    exact ⟨c2,e3,e4.trans e2⟩
  refine { defers:=fun d hd=>let ⟨D,e1,e2,e3,e4⟩:=hS.defers d hd; ⟨D,e1,.inl e2,e3,(hfy D e2).trans e4⟩,dist:=hS.dist,size:=hS.size,small:=hS.small,env:=fun k v hk=>⟨trivial,?_⟩,blk:=fun s b hb=>?_,live:=fun s hs r base hm=>?_,inj:=fun s s' hs hs' hne r base r' base' hm hm'=>?_,zy:=fun r hr=>hr.imp (hS.zy r) (hS'.zy r),yl:=fun r hr=>hr.elim (fun h=>Nat.lt_of_lt_of_le (hS.yl r h) hB) (hS'.yl r),z0:=fun r hr=>?_,y0:=fun r hr=>?_,below:=hbelow,big:=Nat.le_trans hS.big hB,fm:=fun r hr=>?_,yd:=fun y hy=>?_,mm:=hS.mm,lp:=hS.lp,gl:=hS.gl.mono (fun _ x=>.inl x) hfz }
  ·rw [H.env] at hk
   exact (hS.env k v hk).2.mono (fun _ x=>.inl x) (fun _ x=>.inl x) hfz hfy hkeep D hagree (fun l hl=>hYN.trans hl) fun s ⟨t,h1,h2,h3⟩=>(H.new s t h1 h2 h3).1 k v hk
  ·by_cases hx:∃ t,f t=some s/\lk t τ'.blk≠none
   ·obtain ⟨t,h1,h2⟩:=hx
    rw [H.blk1 s t h1 h2,Option.map_eq_some_iff] at hb
    obtain ⟨b',hb',rfl⟩:=hb
    have hne:t≠YN:=fun e'=>h2 (e'▸H.yn)
    have hR:=yfree_repB (μ':=μ0) hμ0 hshY hne (H.yf t b' hb') (hS'.blk t b' hb')
    have hR2:RepB μ0 (shs τ') Fz2 Fy2 w' t b':=hR.mono (fun _ x=>.inr x) (fun _ x=>.inr x) (fun _ _=>rfl) (fun _ _=>rfl) (Keeps.refl w') (fun _=>False) (fun _ _=>.inr ⟨rfl,rfl⟩) (fun _ x=>x) rfl (fun _ _ _=>rfl) (fun _ x=>x.elim)
    exact repB_map (fun y _ v hv=>hval 6 hv) (by rw [hμf s t h1 h2,hμ0 t hne]) hR2
   ·rw [hblkn s hx] at hb
    refine (hS.blk s b hb).mono (fun _ x=>.inl x) (fun _ x=>.inl x) hfz hfy hkeep D hagree (fun l hl=>hYN.trans hl) (hμn s hx) (fun r base hm=>hsame r (hS.live s (by simp [hb]) r base hm).2.1 (hnot s r base hx (by simp [hb]) hm)) fun s' ⟨t,h1,h2,h3⟩ y hy=>(H.new s' t h1 h2 h3).2 s b hb y hy
  ·by_cases hx:∃ t,f t=some s/\lk t τ'.blk≠none
   ·obtain ⟨t,h1,h2⟩:=hx
    rw [hμf s t h1 h2] at hm
    obtain ⟨k1,k2,k3⟩:=hS'.live t h2 r base hm
    obtain ⟨k4,k5⟩:=hmine r k1
    exact ⟨k4,k2,fun hf=>hf.elim k5 k3⟩
   ·rw [hμn s hx] at hm
    rw [hblkn s hx] at hs
    obtain ⟨k1,k2,k3⟩:=hS.live s hs r base hm
    exact ⟨k1,Nat.lt_of_lt_of_le k2 hB,hFyM r k2 (hnot s r base hx hs hm) k3⟩
  ·have mixed:∀ s s' r base r' base',(∃ t,f t=some s/\lk t τ'.blk≠none)->(¬ ∃ t,f t=some s'/\lk t τ'.blk≠none)->lk s' σ'.blk≠none->μ2 s=some (r,base)->μ2 s'=some (r',base')->r≠r':=fun s s' r base r' base' hx hx' hs' hm hm' e=>by
    subst e
    obtain ⟨t,h1,h2⟩:=hx
    rw [hμf s t h1 h2] at hm
    rw [hμn s' hx'] at hm'
    rw [hblkn s' hx'] at hs'
    have k2:=(hS.live s' hs' r base' hm').2.1
    rcases (hS'.live t h2 r base hm).1 with k1 | k1
    ·have:w.heap.size<=r:=k1
     omega
    ·exact hnot s' r base' hx' hs' hm' k1
   by_cases hx:∃ t,f t=some s/\lk t τ'.blk≠none
   ·by_cases hx':∃ t,f t=some s'/\lk t τ'.blk≠none
    ·obtain ⟨t,h1,h2⟩:=hx
     obtain ⟨t',h1',h2'⟩:=hx'
     rw [hμf s t h1 h2] at hm
     rw [hμf s' t' h1' h2'] at hm'
     exact hS'.inj t t' h2 h2' (fun e=>hne (by subst e; rw [h1] at h1'; simpa using h1')) r base r' base' hm hm'
    ·exact mixed s s' r base r' base' hx hx' hs' hm hm'
   ·by_cases hx':∃ t,f t=some s'/\lk t τ'.blk≠none
    ·exact fun e=>mixed s' s r' base' r base hx' hx hs hm' hm e.symm
    ·rw [hμn s hx] at hm
     rw [hμn s' hx'] at hm'
     rw [hblkn s hx] at hs
     rw [hblkn s' hx'] at hs'
     exact hS.inj s s' hs hs' hne r base r' base' hm hm'
  ·rcases hr with hr | hr
   ·exact hS.z0 r hr
   ·rcases hS'.z0 r hr with h5 | h5
    ·exact hS.z0 r h5
    ·exact .inr (hmine r h5).1
  ·rcases hr with hr | hr
   ·exact hS.y0 r hr
   ·rcases hS'.y0 r hr with h5 | h5
    ·exact hS.y0 r h5
    ·exact .inr (hmine r h5).1
  ·obtain ⟨k1,k2,k3⟩:=hS.fm r hr
   refine ⟨Nat.lt_of_lt_of_le k1 hB,hFyM r k1 (hMX r hr) k2,fun s hs base hm=>?_⟩
   by_cases hx:∃ t,f t=some s/\lk t τ'.blk≠none
   ·obtain ⟨t,h1,h2⟩:=hx
    rw [hμf s t h1 h2] at hm
    rcases (hS'.live t h2 r base hm).1 with k4 | k4
    ·have:w.heap.size<=r:=k4
     omega
    ·exact hMX r hr k4
   ·rw [hμn s hx] at hm
    rw [hblkn s hx] at hs
    exact k3 s hs base hm
  ·obtain ⟨y1,y2,y3⟩:=hS.yd_stays hkeep hbelow hB (fun r hr=>hsame r (hS.fm r hr).1 (hMX r hr)) hbel.drawn y hy
   exact ⟨hYN.trans y1,by rw [H.tr]; exact y2,y3⟩
 ·simp only [List.getElem?_map,Option.map_eq_some_iff] at hj
  obtain ⟨y',hy',rfl⟩:=hj
  obtain ⟨u,hu,hru⟩:=hrr j y' hy'
  refine ⟨u,hu,hval 6 ?_⟩
  rw [List.all_eq_true] at hvs
  have h1:=yfree_rep (μ':=μ0) hμ0 hshY 6 (hvs y' (List.mem_of_getElem? hy')) hru
  exact h1.mono (fun _ x=>.inr x) (fun _ x=>.inr x) (fun _ _=>rfl) (fun _ _=>rfl) (Keeps.refl w') (fun _=>False) (fun _ _=>.inr ⟨rfl,rfl⟩) (fun _ x=>x) (fun _ x=>x.elim)
end
end Go.Proofs.YtejodhjhddnbeaaDoor.E
