/-
  The engine: a symbolic run of a body, proved sound once for any program. Conditions: none.
-/
import Derived.Test.YtejodhjhddnbeaaDoorZ01
set_option linter.unusedVariables false
set_option linter.unusedSimpArgs false
namespace Go.Proofs.YtejodhjhddnbeaaDoor.E
open Go Go.RowKit
def vcells (σ:St):V->Option (List V)
 | .fv ro (.agg cs)=>some (cs.map (nrm ro))
 | .fv ro x=>some [.fv ro x]
 | .agg cs=>some cs
 | .own s off len=>if pres σ s then some [.own s off len] else none
 | .ptr s off=>if pres σ s then some [.ptr s off] else none
 | .pel s i j=>if pres σ s then some [.pel s i j] else none
 | .map s=>if pres σ s then some [.map s] else none
 | .fn f a b=>some [.fn f a b]
 | _=>none
def Cells (μ sh:Mu) (Fz Fy:Nat->Prop) (w:World) (cs:List V) (vs:Array Value):Prop :=
 vs.size=cs.length/\∀ (j:Nat) (y:V),cs[j]? = some y->RepV μ sh Fz Fy w y (vs.getD j undef)
theorem cells_one {μ sh:Mu} {Fz Fy:Nat->Prop} {w:World} {x:V} {v:Value} (h:RepV μ sh Fz Fy w x v):Cells μ sh Fz Fy w [x] #[v]:=by
 refine ⟨rfl,fun j y hj=>?_⟩
 cases j with
 | zero=>simp at hj; subst hj; exact h
 | succ j=>simp at hj
section
variable {C:Base} {σ:St} {a:Act} {w:World} {μ:Mu} {Fz Fy:Nat->Prop} {G:Pg}
theorem vcells_sound {x:V} {cs:List V} (hc:vcells σ x=some cs) {v:Value} (hv:RepV μ (shs σ) Fz Fy w x v):Cells μ (shs σ) Fz Fy w cs v.cells:=by
 unfold vcells at hc
 split at hc
 ·rename_i ro cs'
  simp only [Option.some.injEq] at hc; subst hc
  cases hv with
  | fv _ _ _ hv =>
  cases hv with
  | agg _ vs hs hr =>
  refine ⟨by simp [Value.cells,hs],fun j y hj=>?_⟩
  simp only [List.getElem?_map,Option.map_eq_some_iff] at hj
  obtain ⟨y',hy',rfl⟩:=hj
  exact rep_nrm (hr j y' hy')
 ·rename_i ro x hne
  simp only [Option.some.injEq] at hc; subst hc
  have hv0:=hv
  cases hv with
  | fv _ _ _ hv =>
  have e:v.cells=#[v]:=by
   cases hv<;>first | rfl | (apply cells_of_one; assumption) | exact absurd rfl (hne _)
  rw [e]; exact cells_one hv0
 ·simp only [Option.some.injEq] at hc; subst hc
  cases hv with
  | agg _ vs hs hr=>exact ⟨hs,hr⟩
 ·split at hc
  ·rename_i hp
   simp only [Option.some.injEq] at hc; subst hc
   have hv0:=hv
   cases hv with
   | ownx _ _ _ _ hx=>exact (pres_sh hp hx).elim
   | own=>exact cells_one hv0
  ·simp at hc
 ·split at hc
  ·rename_i hp
   simp only [Option.some.injEq] at hc; subst hc
   have hv0:=hv
   cases hv with
   | ptrx _ _ _ hx=>exact (pres_sh hp hx).elim
   | ptr=>exact cells_one hv0
  ·simp at hc
 ·split at hc
  ·rename_i hp
   simp only [Option.some.injEq] at hc; subst hc
   have hv0:=hv
   cases hv with
   | pelx _ _ _ _ hx=>exact (pres_sh hp hx).elim
   | pel=>exact cells_one hv0
  ·simp at hc
 ·split at hc
  ·rename_i hp
   simp only [Option.some.injEq] at hc; subst hc
   have hv0:=hv
   cases hv with
   | mapx _ _ hx=>exact (pres_sh hp hx).elim
   | map=>exact cells_one hv0
  ·simp at hc
 ·simp only [Option.some.injEq] at hc; subst hc
  have hv0:=hv
  cases hv with
  | fn=>exact cells_one hv0
 ·simp at hc
def splice (cells:List V) (off:Nat) (vc:List V):List V:=cells.take off++vc++cells.drop (off+vc.length)
def fillV (σ:St) (places:List (Nat×Nat)):List V->List (Nat×V)->Option (List V)
 | cells,[]=>some cells
 | cells,(i,v) :: rest=>match places[i]?,vcells σ v with
  | some (off,size),some vc=>if vc.length=size/\off+vc.length<=cells.length then fillV σ places (splice cells off vc) rest else none
  | _,_=>none
theorem foldl_set (off:Nat):∀ (vs:List Value) (k:Nat) (cs:Array Value),off+k+vs.length<=cs.size ->
  let r:=(vs.zipIdx k).foldl (fun cs (x:Value×Nat)=>cs.setIfInBounds (off+x.2) x.1) cs
  r.size=cs.size/\∀ j,r.getD j undef=if off+k<=j/\j < off+k+vs.length then vs.getD (j-(off+k)) undef else cs.getD j undef
 | [],k,cs,_=>by simp; intro j h1 h2; omega
 | v :: vs,k,cs,h=>by
  simp only [List.length_cons] at h
  have ih:=foldl_set off vs (k+1) (cs.setIfInBounds (off+k) v) (by simp; omega)
  simp only [List.zipIdx_cons,List.foldl_cons]
  obtain ⟨h1,h2⟩:=ih
  refine ⟨by rw [h1]; simp,fun j=>?_⟩
  rw [h2 j]
  by_cases hj:j=off+k
  ·subst hj
   have hlt:off+k < cs.size:=by omega
   simp [Array.getD_eq_getD_getElem?,hlt]
   intro h; omega
  ·have hne:off+k≠j:=fun e=>hj e.symm
   by_cases hr:off+(k+1)<=j/\j < off+(k+1)+vs.length
   ·rw [if_pos hr,if_pos (by simp only [List.length_cons]; omega)]
    obtain ⟨m,hm⟩:∃ m,j-(off+k)=m+1:=⟨j-(off+k)-1,by omega⟩
    rw [hm,show j-(off+(k+1))=m from by omega]
    simp
   ·rw [if_neg hr,if_neg (by simp only [List.length_cons]; omega)]
    simp [Array.getD_eq_getD_getElem?,Array.getElem?_setIfInBounds_ne hne]
theorem fillV_sound {places:List (Nat×Nat)} (hp:Nat->Option (Nat×Nat)) (hpl:∀ i x,places[i]? = some x->hp i=some x):∀ (parts:List (Nat×V)) (cells:List V) (r:List V) (vs:Array Value) (ps:List (Nat×Value)),
  fillV σ places cells parts=some r->Cells μ (shs σ) Fz Fy w cells vs->ps.length=parts.length->(∀ (j:Nat) (x:Nat×V),parts[j]? = some x->∃ v,ps[j]? = some (x.1,v)/\RepV μ (shs σ) Fz Fy w x.2 v) ->
  ∃ vs',Instr.fill hp vs ps=some vs'/\Cells μ (shs σ) Fz Fy w r vs'
 | [],cells,r,vs,ps,hf,hc,hl,_=>by
  simp only [fillV,Option.some.injEq] at hf; subst hf
  have:ps=[]:=by simpa using hl
  subst this
  exact ⟨vs,rfl,hc⟩
 | (i,x) :: rest,cells,r,vs,ps,hf,hc,hl,hr=>by
  cases ps with
  | nil=>simp at hl
  | cons p ps =>
  obtain ⟨v,h0,hv⟩:=hr 0 (i,x) rfl
  simp only [List.getElem?_cons_zero,Option.some.injEq] at h0
  subst h0
  simp only [fillV] at hf
  split at hf
  ·rename_i off size vc hpi hvc
   split at hf
   ·rename_i hcond
    obtain ⟨h1,h2⟩:=hcond
    have hvs:=vcells_sound hvc hv
    simp only [Instr.fill,hpl i _ hpi]
    have e1:v.cells.size=size:=by rw [hvs.1,h1]
    have e2:¬ (v.cells.size≠size\/off+v.cells.size > vs.size):=by
     rw [hvs.1,hc.1]; omega
    rw [if_neg (by rw [Bool.or_eq_true,decide_eq_true_eq,decide_eq_true_eq]; exact e2)]
    refine fillV_sound hp hpl rest _ r _ ps hf ?_ (by simpa using hl) (fun j x hj=>by have:=hr (j+1) x (by simpa using hj); simpa using this)
    have hfold:=foldl_set off v.cells.toList 0 vs (by rw [Array.length_toList,hvs.1,hc.1]; omega)
    have e3:v.cells.zipIdx.foldl (fun cs (x:Value×Nat)=>cs.setIfInBounds (off+x.2) x.1) vs=(v.cells.toList.zipIdx 0).foldl (fun cs (x:Value×Nat)=>cs.setIfInBounds (off+x.2) x.1) vs:=by
     rw [<-Array.foldl_toList,Array.toList_zipIdx]
    simp only at hfold
    rw [<-e3] at hfold
    obtain ⟨f1,f2⟩:=hfold
    refine ⟨?_,fun j y hj=>?_⟩
    ·have:(v.cells.zipIdx.foldl (fun cs (x:Value×Nat)=>cs.setIfInBounds (off+x.2) x.1) vs).size=vs.size:=f1
     rw [this,hc.1]; simp [splice]; omega
    ·have:(v.cells.zipIdx.foldl (fun cs (x:Value×Nat)=>cs.setIfInBounds (off+x.2) x.1) vs).getD j undef=_:=f2 j
     rw [this]
     simp only [Nat.add_zero,Array.length_toList,hvs.1]
     simp only [splice,List.append_assoc] at hj
     by_cases c1:j < off
     ·rw [if_neg (by omega)]
      rw [List.getElem?_append_left (by simp; omega),List.getElem?_take_of_lt c1] at hj
      exact hc.2 j y hj
     ·rw [List.getElem?_append_right (by simp; omega)] at hj
      have e4:(cells.take off).length=off:=by simp; omega
      rw [e4] at hj
      by_cases c2:j < off+vc.length
      ·rw [if_pos (by omega)]
       rw [List.getElem?_append_left (by omega)] at hj
       have:=hvs.2 (j-off) y hj
       simpa [Array.getD_eq_getD_getElem?,List.getD_eq_getElem?_getD] using this
      ·rw [if_neg (by omega)]
       rw [List.getElem?_append_right (by omega),List.getElem?_drop,show off+vc.length+(j-off-vc.length)=j from by omega] at hj
       exact hc.2 j y hj
   ·simp at hf
  ·simp at hf
def opds (σ:St):List Operand->Option (List V)
 | []=>some []
 | x :: r=>match opd σ x,opds σ r with
  | some v,some vs=>some (v :: vs)
  | _,_=>none
def parts (σ:St):List (Nat×Operand)->Option (List (Nat×V))
 | []=>some []
 | (i,x) :: r=>match opd σ x,parts σ r with
  | some v,some vs=>some ((i,v) :: vs)
  | _,_=>none
theorem opds_sound (h:Sim C σ a w μ Fz Fy):∀ {xs:List Operand} {vs:List V},opds σ xs=some vs->vs.length=xs.length/\∀ (j:Nat) (y:V),vs[j]? = some y->∃ x,xs[j]? = some x/\RepV μ (shs σ) Fz Fy w y (a.eval x)
 | [],vs,hv=>by simp [opds] at hv; subst hv; simp
 | x :: r,vs,hv=>by
  simp only [opds] at hv
  split at hv
  ·rename_i v vs' h1 h2
   simp only [Option.some.injEq] at hv; subst hv
   obtain ⟨k1,k2⟩:=opds_sound h h2
   refine ⟨by simp [k1],fun j y hj=>?_⟩
   cases j with
   | zero=>simp at hj; subst hj; exact ⟨x,rfl,opd_sound h h1⟩
   | succ j=>simpa using k2 j y (by simpa using hj)
  ·simp at hv
theorem parts_sound (h:Sim C σ a w μ Fz Fy):∀ {xs:List (Nat×Operand)} {vs:List (Nat×V)},parts σ xs=some vs->vs.length=xs.length/\∀ (j:Nat) (y:Nat×V),vs[j]? = some y->∃ x,xs[j]? = some (y.1,x)/\RepV μ (shs σ) Fz Fy w y.2 (a.eval x)
 | [],vs,hv=>by simp [parts] at hv; subst hv; simp
 | (i,x) :: r,vs,hv=>by
  simp only [parts] at hv
  split at hv
  ·rename_i v vs' h1 h2
   simp only [Option.some.injEq] at hv; subst hv
   obtain ⟨k1,k2⟩:=parts_sound h h2
   refine ⟨by simp [k1],fun j y hj=>?_⟩
   cases j with
   | zero=>simp at hj; subst hj; exact ⟨x,rfl,opd_sound h h1⟩
   | succ j=>simpa using k2 j y (by simpa using hj)
  ·simp at hv
theorem zero_cells {sh:Mu} (hT:TOk G) {t:Nat} {ti:TI} (ht:lk t G.tbl=some ti):∃ z,(zeroValue t).run G.P w = .ok z w/\Cells μ sh Fz Fy w (ti.zero.map (.fv false)) z.cells/\z.cells.size=ti.size/\z.cells.toList=ti.zero.map cval:=by
 obtain ⟨i,h1,h2,_,z,h3,h4⟩:=(hT t ti ht).info
 have hg:=(hT t ti ht).good
 have hl:z.cells.size=ti.zero.length:=by rw [<-Array.length_toList,h4]; simp
 refine ⟨z,by simp [zeroValue,typeInfo,h1,h3],⟨by simp [hl],fun j y hj=>?_⟩,by rw [hl,(hT t ti ht).zsize],h4⟩
 simp only [List.getElem?_map,Option.map_eq_some_iff] at hj
 obtain ⟨x,hx,rfl⟩:=hj
 have e:z.cells.getD j undef=cval x:=by
  have:z.cells.toList[j]? = some (cval x):=by rw [h4]; simp [hx]
  rw [Array.getElem?_toList] at this
  simp [Array.getD_eq_getD_getElem?,this]
 rw [e]
 rw [List.all_eq_true] at hg
 exact .fv _ _ _ (rep_cval (hg x (List.mem_of_getElem? hx)))
def placesA (G:Pg):List (Nat×Nat)->Option (List (Nat×Nat))
 | []=>some []
 | (off,t) :: r=>match lk t G.tbl,placesA G r with
  | some ti,some ps=>some ((off,ti.size) :: ps)
  | _,_=>none
theorem placesA_sound (hT:TOk G) (w:World):∀ {fs:List Field} {ps:List (Nat×Nat)},placesA G (fs.map fun f=>(f.offset,f.type))=some ps ->
  (fs.mapM fun f=>(do pure (f.offset,<-sizeOf f.type):Sem (Nat×Nat))).run G.P w = .ok ps w
 | [],ps,h=>by simp [placesA] at h; subst h; simp
 | f :: fs,ps,h=>by
  simp only [List.map_cons,placesA] at h
  split at h
  ·rename_i ti ps' h1 h2
   simp only [Option.some.injEq] at h; subst h
   have ih:=placesA_sound hT w h2
   simp only [List.mapM_cons,Sem.run_bind,run_sizeOf' hT h1,Result.andThen_ok,Sem.run_pure,ih]
  ·simp at h
def buildA (G:Pg) (σ:St) (t:Nat) (ps:List (Nat×V)):Option V :=
 match lk t G.tbl with
 | some ⟨_,_,zero,.struct fs⟩=>match placesA G fs with
  | some pl=>(fillV σ pl (zero.map (.fv false)) ps).map mkAgg
  | none=>none
 | some ⟨_,_,zero,.array n e⟩=>match lk e G.tbl with
  | some ti=>(fillV σ ((List.range n).map fun i=>(i*ti.size,ti.size)) (zero.map (.fv false)) ps).map mkAgg
  | none=>none
 | _=>none
theorem buildA_sound (hT:TOk G) (h:Sim C σ a w μ Fz Fy) {t:Nat} {ps:List (Nat×V)} {r:V} (hb:buildA G σ t ps=some r) (vs:Array (Nat×Value)) (hl:vs.size=ps.length)
  (hr:∀ (j:Nat) (x:Nat×V),ps[j]? = some x->∃ v,vs[j]? = some (x.1,v)/\RepV μ (shs σ) Fz Fy w x.2 v) :
  ∃ u,(Instr.build t vs).run G.P w = .ok u w/\RepV μ (shs σ) Fz Fy w r u:=by
 unfold buildA at hb
 split at hb
 ·rename_i s1 s2 zero fs heq
  split at hb
  ·rename_i pl hpl
   simp only [Option.map_eq_some_iff] at hb
   obtain ⟨cells,hf,rfl⟩:=hb
   obtain ⟨z,hz,hzc,_⟩:=zero_cells (μ:=μ) (sh:=shs σ) (Fz:=Fz) (Fy:=Fy) (w:=w) hT heq
   obtain ⟨d,hd,fields,rfl,hfs⟩:=(hT t _ heq).under
   rw [<-hfs] at hpl
   have hpm:=placesA_sound hT w hpl
   obtain ⟨vs',h1,h2⟩:=fillV_sound (hp:=fun i=>pl.toArray[i]?) (by simp) ps _ _ z.cells vs.toList hf hzc (by simpa using hl) (fun j x hj=>by simpa using hr j x hj)
   refine ⟨.agg vs',?_,mkAgg_sound h.zy vs' h2.1 h2.2⟩
   simp only [Instr.build,Sem.run_bind,hz,Result.andThen_ok,underlying,run_program,hd,Sem.run_pure,Array.mapM_eq_mapM_toList,Sem.run_map,hpm,h1]
  ·simp at hb
 ·rename_i s1 s2 zero n e heq
  split at hb
  ·rename_i ti hti
   simp only [Option.map_eq_some_iff] at hb
   obtain ⟨cells,hf,rfl⟩:=hb
   obtain ⟨z,hz,hzc,_⟩:=zero_cells (μ:=μ) (sh:=shs σ) (Fz:=Fz) (Fy:=Fy) (w:=w) hT heq
   obtain ⟨d,hd,hd'⟩:=(hT t _ heq).under
   have hd':d = .array n e:=hd'
   subst hd'
   obtain ⟨vs',h1,h2⟩:=fillV_sound (hp:=fun i=>some (i*ti.size,ti.size)) (by
    intro i x hx
    simp only [List.getElem?_map,Option.map_eq_some_iff] at hx
    obtain ⟨j,hj,rfl⟩:=hx
    have:=(List.getElem?_eq_some_iff.1 hj)
    obtain ⟨h1,h2⟩:=this
    simp only [List.getElem_range] at h2
    subst h2; rfl) ps _ _ z.cells vs.toList hf hzc (by simpa using hl) (fun j x hj=>by simpa using hr j x hj)
   refine ⟨.agg vs',?_,mkAgg_sound h.zy vs' h2.1 h2.2⟩
   simp only [Instr.build,Sem.run_bind,hz,Result.andThen_ok,underlying,run_program,hd,Sem.run_pure,run_sizeOf' hT hti,h1]
  ·simp at hb
 ·simp at hb
end
def partA (G:Pg) (ft:Nat) (cells:List V) (off:Nat):Option V :=
 match lk ft G.tbl with
 | some ti=>if ti.kind.agg then (if off+ti.size<=cells.length then some (mkAgg ((cells.drop off).take ti.size)) else none) else cells[off]?
 | none=>none
def aggCells:V->Option (List V)
 | .fv ro (.agg cs)=>some (cs.map (nrm ro))
 | .agg cs=>some cs
 | _=>none
def nonnil (σ:St):V->Option V
 | .fv ro (.pt c o)=>some (.fv ro (.pt c o))
 | .fv ro (.rb f p q)=>some (.fv ro (.rb f p q))
 | .ptr s o=>if pres σ s then some (.ptr s o) else none
 | .pel s i j=>if pres σ s then some (.pel s i j) else none
 | .fv ro (.fn (.func f) a b)=>some (.fv ro (.fn (.func f) a b))
 | .fn (.func f) a b=>some (.fn (.func f) a b)
 | _=>none
def unA (op:UnOp):FV->Option FV
 | .bool b=>match op with
  | .not=>some (.bool (!b))
  | _=>none
 | .int k n=>match op with
  | .neg=>some (.int k (k.wrap (0-n)))
  | _=>none
 | _=>none
def mkFn (f:Fn) (first captured:List V):V :=
 match allF first,allF captured with
 | some (p,xs),some (q,ys)=>nrm (p||q) (.fn f xs ys)
 | _,_=>.fn f first captured
def lenA (G:Pg) (σ:St) (t:Nat) (x:V):Option Int :=
 match lk t G.tbl,x with
 | some ⟨_,_,_,.slice _⟩,.own s _ len=>if pres σ s then some len else none
 | some ⟨_,_,_,.slice _⟩,.fv _ (.sl _ _ xs)=>some xs.length
 | some ⟨_,_,_,.string⟩,.fv _ (.str s)=>some s.size
 | _,_=>none
def popt (σ:St):Option Operand->Option (Option V)
 | none=>some none
 | some x=>(opd σ x).map some
def popA (G:Pg) (σ:St):Op->Option V
 | .move x=>opd σ x
 | .assign x=>opd σ x
 | .pick c x y=>match opd σ c with
  | some (.fv _ (.bool t))=>if t then opd σ x else opd σ y
  | _=>none
 | .load t x=>match opd σ x with
  | some p=>loadA G σ t p
  | none=>none
 | .nilCheck x=>match opd σ x with
  | some p=>nonnil σ p
  | none=>none
 | .binOp op t x y _=>match opd σ x,opd σ y with
  | some (.fv _ u),some (.fv _ v)=>(fbin G op t u v).map (.fv false)
  | some (.ptr s _),some (.fv _ .nilpt)=>match lk t G.tbl with
   | some ⟨_,_,_,.ptr _⟩=>if pres σ s=true then (fnil false op).map fun b=>.fv false (.bool b) else none
   | _=>none
  | _,_=>none
 | .convert src dst x=>match opd σ x,lk src G.tbl,lk dst G.tbl with
  | some (.fv _ (.int _ n)),some _,some ⟨_,_,_,.int k⟩=>some (.fv false (.int k (k.wrap n)))
  | _,_,_=>none
 | .unOp op _ x=>match opd σ x with
  | some (.fv _ u)=>(unA op u).map (.fv false)
  | _=>none
 | .makeFunc f first captured=>match opds σ first.toList,opds σ captured.toList with
  | some xs,some ys=>some (mkFn f xs ys)
  | _,_=>none
 | .slice t x lo hi mx=>match opd σ x,popt σ lo,popt σ hi,popt σ mx with
  | some p,some l,some h,some m =>
   match (match l with | none=>some 0 | some l=>intN l),(match h with | none=>some none | some h=>(intN h).map some),(match m with | none=>some none | some m=>(intN m).map some) with
   | some l,some h,some m=>if m=none\/h≠none then subsl G σ t p l h m else none
   | _,_,_=>none
  | _,_,_,_=>none
 | .fieldAddr t x i=>match opd σ x with
  | some p=>fieldA G σ t p i
  | none=>none
 | .indexAddr t x i=>match opd σ x,opd σ i with
  | some p,some n=>match intN n with
   | some n=>indexA G σ t p n
   | none=>none
  | _,_=>none
 | .field t x i=>match opd σ x,lk t G.tbl with
  | some p,some ⟨_,_,_,.struct fs⟩=>match aggCells p,fs[i]? with
   | some cs,some (off,ft)=>partA G ft cs off
   | _,_=>none
  | _,_=>none
 | .index t x i=>match opd σ x,opd σ i,lk t G.tbl with
  | some p,some n,some ⟨_,_,_,.array len e⟩=>match aggCells p,intN n,lk e G.tbl with
   | some cs,some n,some ti=>if 0<=n/\n < len then partA G e cs (n.toNat*ti.size) else none
   | _,_,_=>none
  | some (.fv _ (.str s)),some n,some ⟨_,_,_,.string⟩=>match intN n with
   | some n=>if 0<=n then (s[n.toNat]?).map fun b=>.fv false (.int .u8 b.toNat) else none
   | none=>none
  | _,_,_=>none
 | .extract x i=>match opd σ x with
  | some (.tup cells)=>cells[i]?
  | _=>none
 | .build t ps=>match parts σ ps.toList with
  | some ps=>buildA G σ t ps
  | none=>none
 | .call c=>match c.callee with
  | .builtin .len=>match c.args.toList,c.argTypes.toList with
   | [x],[t]=>match opd σ x with
    | some p=>(lenA G σ t p).map fun n=>.fv false (.int .i64 n)
    | none=>none
   | _,_=>none
  | .builtin .min=>match c.args.toList with
   | [x,y]=>match opd σ x,opd σ y with
    | some (.fv _ (.int k m)),some (.fv _ (.int _ n))=>some (.fv false (.int k (if n < m then n else m)))
    | _,_=>none
   | _=>none
  | .builtin .max=>match c.args.toList with
   | [x,y]=>match opd σ x,opd σ y with
    | some (.fv _ (.int k m)),some (.fv _ (.int _ n))=>some (.fv false (.int k (if m < n then n else m)))
    | _,_=>none
   | _=>none
  | _=>none
 | _=>none
section
variable {C:Base} {σ:St} {a:Act} {w:World} {μ:Mu} {Fz Fy:Nat->Prop} {G:Pg}
theorem aggCells_sound {x:V} {cs:List V} (hc:aggCells x=some cs) {v:Value} (hv:RepV μ (shs σ) Fz Fy w x v):∃ vs,v = .agg vs/\Cells μ (shs σ) Fz Fy w cs vs:=by
 unfold aggCells at hc
 split at hc
 ·simp only [Option.some.injEq] at hc; subst hc
  cases hv with
  | fv _ _ _ hv =>
  cases hv with
  | agg _ vs hs hr =>
  refine ⟨vs,rfl,by simp [hs],fun j y hj=>?_⟩
  simp only [List.getElem?_map,Option.map_eq_some_iff] at hj
  obtain ⟨y',hy',rfl⟩:=hj
  exact rep_nrm (hr j y' hy')
 ·simp only [Option.some.injEq] at hc; subst hc
  cases hv with
  | agg _ vs hs hr=>exact ⟨vs,rfl,hs,hr⟩
 ·simp at hc
theorem partA_sound (hT:TOk G) (h:Sim C σ a w μ Fz Fy) {ft off:Nat} {cells:List V} {r:V} (hp:partA G ft cells off=some r) {vs:Array Value} (hc:Cells μ (shs σ) Fz Fy w cells vs) :
  ∃ u,(part ft vs off).run G.P w = .ok u w/\RepV μ (shs σ) Fz Fy w r u:=by
 unfold partA at hp
 split at hp
 ·rename_i ti hti
  simp only [part,Sem.run_bind,run_isAgg' hT hti,Result.andThen_ok]
  split at hp
  ·rename_i hag
   split at hp
   ·rename_i hle
    simp only [Option.some.injEq] at hp; subst hp
    simp only [hag,if_true,Sem.run_bind,run_sizeOf' hT hti,Result.andThen_ok,Sem.run_pure]
    refine ⟨_,rfl,mkAgg_sound h.zy _ ?_ fun j y hj=>?_⟩
    ·simp [hc.1]; omega
    ·obtain ⟨h1,h2⟩:=drop_take_get hj
     have:=hc.2 _ y h1
     have e:(vs.extract off (off+ti.size)).getD j undef=vs.getD (off+j) undef:=by
      have:off+j < vs.size:=by rw [hc.1]; exact (List.getElem?_eq_some_iff.1 h1).1
      simp [Array.getD_eq_getD_getElem?,show j < min (off+ti.size) vs.size-off from by omega,this]
     rw [e]; exact this
   ·simp at hp
  ·rename_i hag
   have hag':ti.kind.agg=false:=by simpa using hag
   have hlt:off < vs.size:=by rw [hc.1]; exact (List.getElem?_eq_some_iff.1 hp).1
   have:=hc.2 off r hp
   simp only [hag',Bool.false_eq_true,if_false]
   refine ⟨vs.getD off undef,?_,this⟩
   simp [hlt,Array.getD_eq_getD_getElem?]
 ·simp at hp
theorem mkFn_sound (h:Sim C σ a w μ Fz Fy) (f:Fn) {first captured:List V} {vf vc:Array Value} (hf:Cells μ (shs σ) Fz Fy w first vf) (hc:Cells μ (shs σ) Fz Fy w captured vc) :
  RepV μ (shs σ) Fz Fy w (mkFn f first captured) (.func f vf vc):=by
 unfold mkFn
 split
 ·rename_i p xs q ys h1 h2
  refine rep_nrm (.fn f xs ys vf vc (by rw [hf.1,(allF_sound h1).1]) (by rw [hc.1,(allF_sound h2).1]) (fun j y hj=>?_) (fun j y hj=>?_))
  ·exact roF_mono (Fz:=Fz) (Fy:=Fy) h.zy (fun e=>by simp [e]) (allF_rep h.zy h1 _ hf.2 j y hj)
  ·exact roF_mono (Fz:=Fz) (Fy:=Fy) h.zy (fun e=>by simp [e]) (allF_rep h.zy h2 _ hc.2 j y hj)
 ·exact .fn f _ _ vf vc hf.1 hc.1 hf.2 hc.2
theorem opds_cells (h:Sim C σ a w μ Fz Fy) {xs:Array Operand} {vs:List V} (hv:opds σ xs.toList=some vs):Cells μ (shs σ) Fz Fy w vs (xs.map a.eval):=by
 obtain ⟨h1,h2⟩:=opds_sound h hv
 refine ⟨by simp [h1],fun j y hj=>?_⟩
 obtain ⟨x,hx,hr⟩:=h2 j y hj
 have hx':xs[j]? = some x:=by simpa using hx
 simpa [Array.getD_eq_getD_getElem?,hx'] using hr
theorem nonnil_sound {x y:V} (hn:nonnil σ x=some y) {v:Value} (hv:RepV μ (shs σ) Fz Fy w x v):x=y/\((∃ ad,v = .pointer (some ad))\/∃ f a b,v = .func (.func f) a b):=by
 unfold nonnil at hn
 split at hn
 ·simp only [Option.some.injEq] at hn; subst hn
  cases hv with
  | fv _ _ _ hv=>cases hv; exact ⟨rfl,.inl ⟨_,rfl⟩⟩
 ·simp only [Option.some.injEq] at hn; subst hn
  cases hv with
  | fv _ _ _ hv=>cases hv; exact ⟨rfl,.inl ⟨_,rfl⟩⟩
 ·split at hn
  ·rename_i hp
   simp only [Option.some.injEq] at hn; subst hn
   cases hv with
   | ptrx _ _ _ hx=>exact (pres_sh hp hx).elim
   | ptr=>exact ⟨rfl,.inl ⟨_,rfl⟩⟩
  ·simp at hn
 ·split at hn
  ·rename_i hp
   simp only [Option.some.injEq] at hn; subst hn
   cases hv with
   | pelx _ _ _ _ hx=>exact (pres_sh hp hx).elim
   | pel=>exact ⟨rfl,.inl ⟨_,rfl⟩⟩
  ·simp at hn
 ·simp only [Option.some.injEq] at hn; subst hn
  cases hv with
  | fv _ _ _ hv=>cases hv; exact ⟨rfl,.inr ⟨_,_,_,rfl⟩⟩
 ·simp only [Option.some.injEq] at hn; subst hn
  cases hv with
  | fn=>exact ⟨rfl,.inr ⟨_,_,_,rfl⟩⟩
 ·simp at hn
theorem unA_sound {P:Program} {op:UnOp} {x y:FV} (hu:unA op x=some y) {Fz:Nat->Prop} {w:World} {v:Value} (hv:RepF Fz w x v) :
  ∃ r,(Op.unary op v).run P w = .ok r w/\∀ (Fz:Nat->Prop) w',RepF Fz w' y r:=by
 unfold unA at hu
 split at hu
 ·split at hu
  ·simp only [Option.some.injEq] at hu; subst hu
   cases hv
   exact ⟨_,rfl,fun _ _=>.bool _⟩
  ·simp at hu
 ·split at hu
  ·simp only [Option.some.injEq] at hu; subst hu
   cases hv
   exact ⟨_,by simp [Op.unary,Op.intArith],fun _ _=>.int _ _⟩
  ·simp at hu
 ·simp at hu
theorem lenA_sound (hT:TOk G) {t:Nat} {x:V} {n:Int} (hl:lenA G σ t x=some n) {v:Value} (hv:RepV μ (shs σ) Fz Fy w x v) (ty:TypeId) :
  (Builtin.len_ #[t] ty #[v]).run G.P w = .ok (.int .i64 n) w:=by
 unfold lenA at hl
 split at hl
 ·rename_i s1 s2 s3 e s off len heq
  obtain ⟨d,hd,hk⟩:=(hT t _ heq).under
  simp only [KindIs] at hk; subst hk
  split at hl
  ·rename_i hp
   simp only [Option.some.injEq] at hl; subst hl
   cases hv with
   | ownx _ _ _ _ hx=>exact (pres_sh hp hx).elim
   | own=>simp [Builtin.len_,underlying,hd,goInt]
  ·simp at hl
 ·rename_i s1 s2 s3 e ro clip sz xs heq
  obtain ⟨d,hd,hk⟩:=(hT t _ heq).under
  simp only [KindIs] at hk; subst hk
  simp only [Option.some.injEq] at hl; subst hl
  cases hv with
  | fv _ _ _ hv =>
  cases hv with
  | sl0=>simp [Builtin.len_,underlying,hd,goInt]
  | sl _ _ _ b o len cap us hlen=>subst hlen; simp [Builtin.len_,underlying,hd,goInt]
 ·rename_i s1 s2 s3 ro s heq
  obtain ⟨d,hd,hk⟩:=(hT t _ heq).under
  simp only [KindIs] at hk; subst hk
  simp only [Option.some.injEq] at hl; subst hl
  cases hv with
  | fv _ _ _ hv =>
  cases hv with
  | str=>simp [Builtin.len_,underlying,hd,goInt]
 ·simp at hl
theorem popt_sound (h:Sim C σ a w μ Fz Fy) {x:Option Operand} {v:Option V} (hx:popt σ x=some v) :
  (x=none/\v=none)\/∃ y u,x=some y/\v=some u/\RepV μ (shs σ) Fz Fy w u (a.eval y):=by
 cases x with
 | none=>simp [popt] at hx; exact .inl ⟨rfl,hx.symm⟩
 | some y =>
  simp only [popt,Option.map_eq_some_iff] at hx
  obtain ⟨u,hu,rfl⟩:=hx
  exact .inr ⟨y,u,rfl,rfl,opd_sound h hu⟩
theorem pop_sound (hT:TOk G) (h:Sim C σ a w μ Fz Fy) (o:Oper) {r:V} (hp:popA G σ o.op=some r):∃ u,(execOp a.eval o).run G.P w = .ok (.value u) w/\RepV μ (shs σ) Fz Fy w r u:=by
 obtain ⟨dst,op,type,pos,after,guard⟩:=o
 simp only at hp
 unfold popA at hp
 split at hp
 ·exact ⟨_,rfl,opd_sound h hp⟩
 ·exact ⟨_,rfl,opd_sound h hp⟩
 ·
  rename_i c x y
  split at hp
  ·rename_i q t hc
   have hcv:=opd_sound h hc
   have hcb:a.eval c = .bool t:=by
    generalize a.eval c=vc at hcv ⊢
    cases hcv with
    | fv _ _ _ hv=>cases hv; rfl
   simp only [execOp,hcb,asBool,Sem.run_bind,Sem.run_pure,Result.andThen_ok]
   cases t with
   | true=>exact ⟨_,rfl,opd_sound h (by simpa using hp)⟩
   | false=>exact ⟨_,rfl,opd_sound h (by simpa using hp)⟩
  ·simp at hp
 ·
  split at hp
  ·rename_i p hx
   obtain ⟨u,h1,h2⟩:=loadA_sound hT h hp (opd_sound h hx)
   exact ⟨u,by simp only [execOp,Sem.run_bind,h1,Result.andThen_ok,Sem.run_pure],h2⟩
  ·simp at hp
 ·
  rename_i x
  split at hp
  ·rename_i p hx
   have hv:=opd_sound h hx
   obtain ⟨rfl,hn⟩:=nonnil_sound hp hv
   refine ⟨a.eval x,?_,hv⟩
   rcases hn with ⟨ad,he⟩ | ⟨f,p,q,he⟩<;>simp only [execOp,he,Sem.run_pure]
  ·simp at hp
 ·
  rename_i op t x y yt
  split at hp
  ·rename_i q u q' v hx hy
   simp only [Option.map_eq_some_iff] at hp
   obtain ⟨z,hz,rfl⟩:=hp
   have h1:=opd_sound h hx
   have h2:=opd_sound h hy
   cases h1 with
   | fv _ _ _ h1 =>
   cases h2 with
   | fv _ _ _ h2 =>
   obtain ⟨r,hr,hrep⟩:=fbin_sound hT hz h1 h2 x y
   exact ⟨r,by simp only [execOp,Sem.run_bind] at hr ⊢; rw [hr]; rfl,.fv _ _ _ (hrep _ _)⟩
  ·rename_i s off q hx hy
   split at hp
   ·rename_i s1 s2 s3 e heq
    split at hp
    ·rename_i hpr
     obtain ⟨d,hd,hk⟩:=(hT t _ heq).under
     simp only [KindIs] at hk; subst hk
     have h1:=opd_sound h hx
     have h2:=opd_sound h hy
     generalize hu:a.eval x=u at h1
     generalize hv:a.eval y=v at h2
     cases h2 with
     | fv _ _ _ h2 =>
     cases h2
     cases h1 with
     | ptrx _ _ _ hx=>exact (pres_sh hpr hx).elim
     | ptr _ _ b base hm =>
     simp only [Option.map_eq_some_iff] at hp
     obtain ⟨bb,hbb,rfl⟩:=hp
     obtain ⟨r,hr,hrep⟩:=fnil_sound (P:=G.P) (op:=op) (b:=false) (z:=.bool bb) (o:=some ⟨b,base+off,none⟩) hd (by rw [hbb]; rfl) rfl w x y
     exact ⟨r,by simp only [execOp,Sem.run_bind,hu,hv] at hr ⊢; rw [hr]; rfl,.fv _ _ _ (hrep _ _)⟩
    ·simp at hp
   ·simp at hp
  ·simp at hp
 ·
  split at hp
  ·rename_i q k0 n ti s1 s2 s3 k hx hsrc hdst
   simp only [Option.some.injEq] at hp; subst hp
   obtain ⟨d,hd,hk⟩:=(hT _ _ hdst).under
   simp only [KindIs] at hk; subst hk
   obtain ⟨ds,hds,_⟩:=(hT _ _ hsrc).under
   have h1:=opd_sound h hx
   generalize hu:a.eval _=u at h1
   cases h1 with
   | fv _ _ _ h1 =>
   cases h1
   refine ⟨.int k (k.wrap n),?_,.fv _ _ _ (.int _ _)⟩
   simp [execOp,Sem.run_bind,hu,convert,underlying,hd,hds,Conv.intToInt]
  ·simp at hp
 ·
  split at hp
  ·rename_i q u hx
   simp only [Option.map_eq_some_iff] at hp
   obtain ⟨z,hz,rfl⟩:=hp
   have h1:=opd_sound h hx
   cases h1 with
   | fv _ _ _ h1 =>
   obtain ⟨r,hr,hrep⟩:=unA_sound (P:=G.P) hz h1
   exact ⟨r,by simp only [execOp,Sem.run_bind,hr,Result.andThen_ok,Sem.run_pure],.fv _ _ _ (hrep _ _)⟩
  ·simp at hp
 ·
  split at hp
  ·rename_i f first captured xs ys h1 h2
   simp only [Option.some.injEq] at hp; subst hp
   exact ⟨_,by simp only [execOp,Instr.makeFunc,Sem.run_bind,Sem.run_pure,Result.andThen_ok],mkFn_sound h _ (opds_cells h h1) (opds_cells h h2)⟩
  ·simp at hp
 ·
  rename_i t x lo hi mx
  split at hp
  ·rename_i p l hh m hx hl hhi hm
   have hv:=opd_sound h hx
   split at hp
   ·rename_i l' h' m' el eh em
    split at hp
    ·rename_i hmh
     have a1:lo.map a.eval=none/\l'=0\/∃ k,lo.map a.eval=some (.int k l'):=by
      rcases popt_sound h hl with ⟨rfl,rfl⟩ | ⟨y,u,rfl,rfl,hu⟩
      ·simp only [Option.some.injEq] at el; exact .inl ⟨rfl,el.symm⟩
      ·obtain ⟨k,hk⟩:=intN_sound el hu
       exact .inr ⟨k,by simp [hk]⟩
     have a2:intOV h' (hi.map a.eval):=by
      rcases popt_sound h hhi with ⟨rfl,rfl⟩ | ⟨y,u,rfl,rfl,hu⟩
      ·simp only [Option.some.injEq] at eh; subst eh; trivial
      ·simp only [Option.map_eq_some_iff] at eh
       obtain ⟨n,hn,rfl⟩:=eh
       obtain ⟨k,hk⟩:=intN_sound hn hu
       exact ⟨k,hk⟩
     have a3:intOV m' (mx.map a.eval):=by
      rcases popt_sound h hm with ⟨rfl,rfl⟩ | ⟨y,u,rfl,rfl,hu⟩
      ·simp only [Option.some.injEq] at em; subst em; trivial
      ·simp only [Option.map_eq_some_iff] at em
       obtain ⟨n,hn,rfl⟩:=em
       obtain ⟨k,hk⟩:=intN_sound hn hu
       exact ⟨k,hk⟩
     obtain ⟨u,h1,h2⟩:=subsl_sound hT h hp hv a1 a2 a3 hmh
     exact ⟨u,by simp only [execOp,Sem.run_bind,h1,Result.andThen_ok,Sem.run_pure],h2⟩
    ·simp at hp
   ·simp at hp
  ·simp at hp
 ·
  split at hp
  ·rename_i p hx
   obtain ⟨u,h1,h2⟩:=fieldA_sound hT h hp (opd_sound h hx)
   exact ⟨u,by simp only [execOp,Sem.run_bind,h1,Result.andThen_ok,Sem.run_pure],h2⟩
  ·simp at hp
 ·
  split at hp
  ·rename_i p n hx hn
   split at hp
   ·rename_i m hm
    obtain ⟨k,hk⟩:=intN_sound hm (opd_sound h hn)
    obtain ⟨u,h1,h2⟩:=indexA_sound hT h hp (opd_sound h hx) k
    exact ⟨u,by simp only [execOp,hk,Sem.run_bind,h1,Result.andThen_ok,Sem.run_pure],h2⟩
   ·simp at hp
  ·simp at hp
 ·
  rename_i t x i
  split at hp
  ·rename_i p s1 s2 s3 fs hx heq
   split at hp
   ·rename_i cs off ft hcs hf
    obtain ⟨d,hd,fields,rfl,hfs⟩:=(hT _ _ heq).under
    obtain ⟨vs,hvs,hc⟩:=aggCells_sound hcs (opd_sound h hx)
    obtain ⟨u,h1,h2⟩:=partA_sound hT h hp hc
    rw [<-hfs,List.getElem?_map,Option.map_eq_some_iff] at hf
    obtain ⟨f,hf,he⟩:=hf
    simp only [Prod.mk.injEq] at he
    obtain ⟨rfl,rfl⟩:=he
    have hf':fields[i]? = some f:=by simpa using hf
    exact ⟨u,by simp only [execOp,Sem.run_bind,Instr.field,underlying,run_program,hd,Result.andThen_ok,Sem.run_pure,hf',hvs,asAgg,h1],h2⟩
   ·simp at hp
  ·simp at hp
 ·
  split at hp
  ·rename_i p n s1 s2 s3 len e hx hn heq
   split at hp
   ·rename_i cs m ti hcs hm hti
    split at hp
    ·rename_i hb
     obtain ⟨d,hd,hk⟩:=(hT _ _ heq).under
     simp only [KindIs] at hk; subst hk
     obtain ⟨vs,hvs,hc⟩:=aggCells_sound hcs (opd_sound h hx)
     obtain ⟨k,hk⟩:=intN_sound hm (opd_sound h hn)
     obtain ⟨u,h1,h2⟩:=partA_sound hT h hp hc
     exact ⟨u,by simp only [execOp,Sem.run_bind,Instr.index,hk,asIntOf,underlying,run_program,hd,Result.andThen_ok,Sem.run_pure,hvs,if_pos hb,run_sizeOf' hT hti,h1],h2⟩
    ·simp at hp
   ·simp at hp
  ·rename_i q s n s1 s2 s3 hx hn heq
   split at hp
   ·rename_i m hm
    split at hp
    ·rename_i h0
     simp only [Option.map_eq_some_iff] at hp
     obtain ⟨b,hb,rfl⟩:=hp
     obtain ⟨d,hd,hk⟩:=(hT _ _ heq).under
     simp only [KindIs] at hk; subst hk
     obtain ⟨k,hk⟩:=intN_sound hm (opd_sound h hn)
     have hv:=opd_sound h hx
     cases hv with
     | fv _ _ v hv =>
     generalize hve:a.eval _=v at hv
     cases hv with
     | str =>
     refine ⟨.int .u8 b.toNat,?_,.fv _ _ _ (.int _ _)⟩
     simp only [execOp,Sem.run_bind,Instr.index,hk,asIntOf,underlying,run_program,hd,Result.andThen_ok,Sem.run_pure,hve,if_pos h0,hb]
    ·simp at hp
   ·simp at hp
  ·simp at hp
 ·
  rename_i x i
  split at hp
  ·rename_i cells hx
   have hv:=opd_sound h hx
   generalize hve:a.eval _=v at hv
   cases hv with
   | tup _ vs hs hr =>
   have hlt:i < vs.size:=by rw [hs]; exact (List.getElem?_eq_some_iff.1 hp).1
   have:=hr _ r hp
   refine ⟨_,?_,this⟩
   simp only [execOp,Sem.run_bind,hve,Instr.extract]
   simp [hlt,Array.getD_eq_getD_getElem?]
  ·simp at hp
 ·
  rename_i t ps
  split at hp
  ·rename_i ps' hps
   obtain ⟨k1,k2⟩:=parts_sound h hps
   obtain ⟨u,h1,h2⟩:=buildA_sound hT h hp (ps.map fun (i,x)=>(i,a.eval x)) (by simp [k1]) (fun j x hj=>by
    obtain ⟨y,hy,hr⟩:=k2 j x hj
    have hy':ps[j]? = some (x.1,y):=by simpa using hy
    exact ⟨a.eval y,by simp [hy'],hr⟩)
   exact ⟨u,by simp only [execOp,Sem.run_bind,h1,Result.andThen_ok,Sem.run_pure],h2⟩
  ·simp at hp
 ·
  rename_i c
  obtain ⟨callee,args,ats⟩:=c
  simp only at hp
  split at hp
  ·split at hp
   ·rename_i x t hargs hats
    split at hp
    ·rename_i p hx
     simp only [Option.map_eq_some_iff] at hp
     obtain ⟨n,hn,rfl⟩:=hp
     have e1:args=#[x]:=Array.toList_inj.1 hargs
     have e2:ats=#[t]:=Array.toList_inj.1 hats
     subst e1; subst e2
     have:=lenA_sound hT hn (opd_sound h hx) type
     exact ⟨_,by simp [execOp,resolve,invoke,builtin,this],.fv _ _ _ (.int _ _)⟩
    ·simp at hp
   ·simp at hp
  ·split at hp
   ·rename_i x y hargs
    split at hp
    ·rename_i q k m q' k' n hx hy
     simp only [Option.some.injEq] at hp; subst hp
     have e1:args=#[x,y]:=Array.toList_inj.1 hargs
     subst e1
     have h1:=opd_sound h hx
     have h2:=opd_sound h hy
     generalize hve:a.eval x=v at h1
     generalize hvf:a.eval y=v' at h2
     cases h1 with
     | fv _ _ _ h1 =>
     cases h1
     cases h2 with
     | fv _ _ _ h2 =>
     cases h2
     exact ⟨_,by simp [execOp,resolve,invoke,builtin,Builtin.min_,Builtin.min2,hve,hvf],.fv _ _ _ (.int _ _)⟩
    ·simp at hp
   ·simp at hp
  ·split at hp
   ·rename_i x y hargs
    split at hp
    ·rename_i q k m q' k' n hx hy
     simp only [Option.some.injEq] at hp; subst hp
     have e1:args=#[x,y]:=Array.toList_inj.1 hargs
     subst e1
     have h1:=opd_sound h hx
     have h2:=opd_sound h hy
     generalize hve:a.eval x=v at h1
     generalize hvf:a.eval y=v' at h2
     cases h1 with
     | fv _ _ _ h1 =>
     cases h1
     cases h2 with
     | fv _ _ _ h2 =>
     cases h2
     exact ⟨_,by simp [execOp,resolve,invoke,builtin,Builtin.max_,Builtin.max2,hve,hvf],.fv _ _ _ (.int _ _)⟩
    ·simp at hp
   ·simp at hp
  ·simp at hp
 ·simp at hp
end
abbrev Fix:=List Nat×Bool×FV
def frzL (f:V->Option Fix):List V->Option (List Nat×Bool×List FV)
 | []=>some ([],false,[])
 | v :: r=>match f v,frzL f r with
  | some (ns,ro,x),some (ms,ro',xs)=>some (ns++ms,ro||ro',x :: xs)
  | _,_=>none
def self (s:Nat):List V->Option (List V×List V)
 | []=>none
 | .ptr t 0 :: r=>if t=s then some ([],r) else match self s r with
  | some (p,q)=>some (.ptr t 0 :: p,q)
  | none=>none
 | v :: r=>match self s r with
  | some (p,q)=>some (v :: p,q)
  | none=>none
def frz (σ:St):Nat->V->Option Fix
 | 0,_=>none
 | n+1,v=>match v with
  | .fv ro x=>some ([],ro,x)
  | .own s off len=>match lk s σ.blk with
   | some (.arr sz xs)=>some ([s],false,.sl false sz ((xs.drop off).take len))
   | _=>none
  | .pel s i j=>match lk s σ.blk with
   | some (.arr _ xs)=>match xs[i]? with
    | some x=>some ([s],false,.pt (cellsOf x) j)
    | none=>none
   | _=>none
  | .ptr s off=>match lk s σ.blk with
   | some (.box cells) =>
    match (match cells,off with | [.fn (.func f) [] caps],0=>(self s caps).map fun pq=>(f,pq.1,pq.2) | _,_=>none) with
    | some (f,pre,post)=>match frzL (frz σ n) pre,frzL (frz σ n) post with
     | some (ns,ro,xs),some (ms,ro',ys)=>some (s :: (ns++ms),ro||ro',.rb f xs ys)
     | _,_=>none
    | none=>match frzL (frz σ n) cells with
     | some (ns,ro,xs)=>some (s :: ns,ro,.pt xs off)
     | none=>none
   | _=>none
  | .agg cells=>match frzL (frz σ n) cells with
   | some (ns,ro,xs)=>some (ns,ro,.agg xs)
   | none=>none
  | .fn f first captured=>match frzL (frz σ n) first,frzL (frz σ n) captured with
   | some (ns,ro,xs),some (ms,ro',ys)=>some (ns++ms,ro||ro',.fn f xs ys)
   | _,_=>none
  | .map s=>if pres σ s=true then some ([],false,.top) else none
  | _=>none
def Of (μ:Mu) (Z:Nat->Prop) (ns:List Nat):Nat->Prop:=fun b=>Z b\/∃ s,s∈ns/\∃ base,μ s=some (b,base)
theorem self_split {s:Nat}:∀ {l p q:List V},self s l=some (p,q)->l=p++.ptr s 0 :: q
 | [],p,q,h=>by simp [self] at h
 | v :: r,p,q,h=>by
  unfold self at h
  split at h
  ·simp at *
  ·rename_i t r' heq
   simp only [List.cons.injEq] at heq
   obtain ⟨rfl,rfl⟩:=heq
   split at h
   ·rename_i e
    simp only [Option.some.injEq,Prod.mk.injEq] at h
    obtain ⟨rfl,rfl⟩:=h
    simp [e]
   ·split at h
    ·rename_i p' q' hr
     simp only [Option.some.injEq,Prod.mk.injEq] at h
     obtain ⟨rfl,rfl⟩:=h
     simp [self_split hr]
    ·simp at h
  ·rename_i v' r' hne heq
   simp only [List.cons.injEq] at heq
   obtain ⟨rfl,rfl⟩:=heq
   split at h
   ·rename_i p' q' hr
    simp only [Option.some.injEq,Prod.mk.injEq] at h
    obtain ⟨rfl,rfl⟩:=h
    simp [self_split hr]
   ·simp at h
section
variable {C:Base} {σ:St} {a:Act} {w:World} {μ:Mu} {Fz Fy:Nat->Prop} {G:Pg}
theorem RepF.wider {Z Z':Nat->Prop} {x:FV} {v:Value} (h:RepF Z w x v) (hz:∀ b,Z b->Z' b):RepF Z' w x v:=h.mono hz (fun _ _=>rfl)
theorem roF_left (hzy:∀ b,Fz b->Fy b) {r1 r2:Bool} {b:Nat} (h:roF Fz Fy r1 b):roF Fz Fy (r1||r2) b:=by
 cases r1<;>cases r2<;>simp only [roF,Bool.or_true,Bool.or_false,if_true,Bool.false_eq_true,if_false] at h ⊢<;>first | exact h | exact hzy _ h
theorem roF_right (hzy:∀ b,Fz b->Fy b) {r1 r2:Bool} {b:Nat} (h:roF Fz Fy r2 b):roF Fz Fy (r1||r2) b:=by
 rw [Bool.or_comm]; exact roF_left hzy h
theorem frzL_sound (f:V->Option Fix) (g:Nat->Value)
  (hf:∀ {x ns ro y v},f x=some (ns,ro,y)->RepV μ (shs σ) Fz Fy w x v->(∀ s∈ns,lk s σ.blk≠none)/\RepF (Of μ (roF Fz Fy ro) ns) w y v) (hzy:∀ b,Fz b->Fy b) :
  ∀ {cs:List V} {ns:List Nat} {ro:Bool} {xs:List FV} (k:Nat),frzL f cs=some (ns,ro,xs)->(∀ (j:Nat) (y:V),cs[j]? = some y->RepV μ (shs σ) Fz Fy w y (g (k+j))) ->
   (∀ s∈ns,lk s σ.blk≠none)/\xs.length=cs.length/\∀ (j:Nat) (y:FV),xs[j]? = some y->RepF (Of μ (roF Fz Fy ro) ns) w y (g (k+j))
 | [],ns,ro,xs,k,h,hr=>by
  simp only [frzL,Option.some.injEq,Prod.mk.injEq] at h
  obtain ⟨rfl,rfl,rfl⟩:=h
  simp
 | c :: cs,ns,ro,xs,k,h,hr=>by
  simp only [frzL] at h
  split at h
  ·rename_i n1 r1 x n2 r2 ys h1 h2
   simp only [Option.some.injEq,Prod.mk.injEq] at h
   obtain ⟨rfl,rfl,rfl⟩:=h
   obtain ⟨a1,a2⟩:=hf h1 (hr 0 c rfl)
   obtain ⟨b1,b2,b3⟩:=frzL_sound f g hf hzy (k+1) h2 (fun j y hj=>by have:=hr (j+1) y (by simpa using hj); rwa [show k+(j+1)=k+1+j from by omega] at this)
   refine ⟨fun s hs=>?_,by simp [b2],fun j y hj=>?_⟩
   ·rcases List.mem_append.1 hs with hs | hs
    ·exact a1 s hs
    ·exact b1 s hs
   ·cases j with
    | zero =>
     simp only [List.getElem?_cons_zero,Option.some.injEq] at hj; subst hj
     refine a2.wider fun b hb=>?_
     rcases hb with hb | ⟨s,hs,hm⟩
     ·exact .inl (roF_left hzy hb)
     ·exact .inr ⟨s,List.mem_append_left _ hs,hm⟩
    | succ j =>
     have:=b3 j y (by simpa using hj)
     rw [show k+(j+1)=k+1+j from by omega]
     refine this.wider fun b hb=>?_
     rcases hb with hb | ⟨s,hs,hm⟩
     ·exact .inl (roF_right hzy hb)
     ·exact .inr ⟨s,List.mem_append_right _ hs,hm⟩
  ·simp at h
theorem frz_sound (h:Sim C σ a w μ Fz Fy):∀ (n:Nat) {x:V} {ns:List Nat} {ro:Bool} {y:FV} {v:Value},frz σ n x=some (ns,ro,y)->RepV μ (shs σ) Fz Fy w x v ->
  (∀ s∈ns,lk s σ.blk≠none)/\RepF (Of μ (roF Fz Fy ro) ns) w y v
 | 0,_,_,_,_,_,hx,_=>by simp [frz] at hx
 | n+1,x,ns,ro,y,v,hx,hv=>by
  have ih:=@frz_sound h n
  simp only [frz] at hx
  split at hx
  ·simp only [Option.some.injEq,Prod.mk.injEq] at hx
   obtain ⟨rfl,rfl,rfl⟩:=hx
   cases hv with
   | fv _ _ _ hv=>exact ⟨by simp,hv.wider fun b hb=>.inl hb⟩
  ·rename_i s off len
   split at hx
   ·rename_i sz xs hb
    simp only [Option.some.injEq,Prod.mk.injEq] at hx
    obtain ⟨rfl,rfl,rfl⟩:=hx
    refine ⟨by simp [hb],?_⟩
    cases hv with
    | ownx _ _ _ _ hx=>simp [shs,hb] at hx
    | own _ _ _ ad cap sz' n' hs hn hc hm =>
    simp only [shs,hb,Option.map_some,shp,Option.some.injEq,Prod.mk.injEq] at hs
    obtain ⟨rfl,rfl⟩:=hs
    by_cases hl:len=0
    ·subst hl
     simp only [List.take_zero]
     exact .sl0 _ _ _ _ (by simp)
    ·rcases hm with hm | ⟨b,base,hm,rfl,hroom⟩
     ·omega
     ·have hB:=h.blk s _ hb
      cases hB with
      | nil=>simp at hn; omega
      | arr _ _ b' base' c e hm' hh hcc hsz hr =>
      rw [hm] at hm'
      simp only [Option.some.injEq,Prod.mk.injEq] at hm'
      obtain ⟨rfl,rfl⟩:=hm'
      refine .sl _ _ _ b (base+off*sz) len cap (fun i j=>c.getD (base+((off+i)*sz+j)) undef) (by simp; omega) hc (by simp) (.inr ⟨s,by simp,base,hm⟩) ?_ ?_ ?_
      ·intro i x hi; exact hsz _ x (drop_take_get hi).1
      ·intro i x j y hi hj
       obtain ⟨h1,h2⟩:=drop_take_get hi
       have hxl:=ok_len (hsz _ x h1)
       have hjl:j < sz:=by rw [<-hxl]; exact (List.getElem?_eq_some_iff.1 hj).1
       have hlt:(off+i+1)*sz<=xs.length*sz:=Nat.mul_le_mul_right _ (List.getElem?_eq_some_iff.1 h1).1
       rw [Nat.add_mul] at hlt
       have e1:base+off*sz+(i*sz+j)=base+((off+i)*sz+j):=by rw [Nat.add_mul]; omega
       rw [e1]
       exact cell_of_heap hh (by omega)
      ·intro i x j y hi hj
       exact (hr _ x j y (drop_take_get hi).1 hj).wider fun b hb=>.inl (by simpa [roF] using hb)
   ·simp at hx
  ·rename_i s i j
   split at hx
   ·rename_i sz xs hb
    split at hx
    ·rename_i x hxi
     simp only [Option.some.injEq,Prod.mk.injEq] at hx
     obtain ⟨rfl,rfl,rfl⟩:=hx
     refine ⟨by simp [hb],?_⟩
     cases hv with
     | pelx _ _ _ _ hx=>simp [shs,hb] at hx
     | pel _ _ _ sz' n' b base hs hi hm =>
     simp only [shs,hb,Option.map_some,shp,Option.some.injEq,Prod.mk.injEq] at hs
     obtain ⟨rfl,rfl⟩:=hs
     have hB:=h.blk s _ hb
     cases hB with
     | nil=>simp at hxi
     | arr _ _ b' base' c e hm' hh hcc hsz hr =>
     rw [hm] at hm'
     simp only [Option.some.injEq,Prod.mk.injEq] at hm'
     obtain ⟨rfl,rfl⟩:=hm'
     rw [<-Nat.add_assoc]
     refine .pt (cellsOf x) j b (base+i*sz) (fun j=>c.getD (base+(i*sz+j)) undef) (.inr ⟨s,by simp,base,hm⟩) ?_ ?_
     ·intro j y hj
      have hxl:=ok_len (hsz i x hxi)
      have hjl:j < sz:=by rw [<-hxl]; exact (List.getElem?_eq_some_iff.1 hj).1
      have hlt:(i+1)*sz<=xs.length*sz:=Nat.mul_le_mul_right _ hi
      rw [Nat.add_mul] at hlt
      rw [Nat.add_assoc]
      exact cell_of_heap hh (by omega)
     ·intro j y hj
      exact (hr i x j y hxi hj).wider fun b hb=>.inl (by simpa [roF] using hb)
    ·simp at hx
   ·simp at hx
  ·rename_i s off
   split at hx
   ·rename_i cells hb
    have hB:=h.blk s _ hb
    cases hB with
    | box _ b c e hm hh hc hr =>
    cases hv with
    | ptrx _ _ _ hx=>simp [shs,hb] at hx
    | ptr _ _ b' base hm' =>
    rw [hm] at hm'
    simp only [Option.some.injEq,Prod.mk.injEq] at hm'
    obtain ⟨rfl,rfl⟩:=hm'
    split at hx
    ·rename_i f pre post hsp
     split at hsp
     ·rename_i f' caps
      simp only [Option.map_eq_some_iff,Prod.mk.injEq] at hsp
      obtain ⟨⟨p,q⟩,hself,rfl,rfl,rfl⟩:=hsp
      have hcaps:=self_split hself
      split at hx
      ·rename_i n1 r1 xs n2 r2 ys h1 h2
       simp only [Option.some.injEq,Prod.mk.injEq] at hx
       obtain ⟨rfl,rfl,rfl⟩:=hx
       have hcell:=hr 0 _ rfl
       generalize hcv:c.getD 0 undef=cv at hcell
       cases hcell with
       | fn _ _ _ vf vc hs1 hs2 hr1 hr2 =>
       subst hcaps
       simp only [List.length_append,List.length_cons] at hs2
       have hselfv:=hr2 p.length (.ptr s 0) (by simp)
       have hsp:vc.getD p.length undef = .pointer (some ⟨b,0,none⟩):=by
        generalize vc.getD p.length undef=u at hselfv
        cases hselfv with
        | ptrx _ _ _ hx=>simp [shs,hb] at hx
        | ptr _ _ b' base' hm' =>
         rw [hm] at hm'
         simp only [Option.some.injEq,Prod.mk.injEq] at hm'
         obtain ⟨rfl,rfl⟩:=hm'
         rfl
       have hvf:vf=#[]:=by apply Array.eq_empty_of_size_eq_zero; simpa using hs1
       subst hvf
       obtain ⟨a1,a2,a3⟩:=frzL_sound (frz σ n) (fun j=>vc.getD j undef) (fun hx hv=>ih hx hv) h.zy 0 h1 (fun j y hj=>by
        have:=hr2 j y (by rw [List.getElem?_append_left (List.getElem?_eq_some_iff.1 hj).1]; exact hj); simpa using this)
       obtain ⟨b1,b2,b3⟩:=frzL_sound (frz σ n) (fun j=>vc.getD j undef) (fun hx hv=>ih hx hv) h.zy (p.length+1) h2 (fun j y hj=>by
        refine hr2 (p.length+1+j) y ?_
        rw [List.getElem?_append_right (by omega),show p.length+1+j-p.length=j+1 from by omega]
        simpa using hj)
       replace a2:xs.length=p.length:=a2
       replace b2:ys.length=q.length:=b2
       refine ⟨fun t ht=>?_,?_⟩
       ·rcases List.mem_cons.1 ht with rfl | ht
        ·simp [hb]
        ·rcases List.mem_append.1 ht with ht | ht
         ·exact a1 t ht
         ·exact b1 t ht
       ·have hvc:vc=(vc.extract 0 p.length)++#[.pointer (some ⟨b,0,none⟩)]++(vc.extract (p.length+1) vc.size):=by
         apply Array.ext_getElem?
         intro i
         rcases Nat.lt_trichotomy i p.length with hlt | heq | hgt
         ·rw [Array.getElem?_append_left (by simp; omega),Array.getElem?_append_left (by simp; omega),Array.getElem?_extract,if_pos (by omega)]
          simp
         ·subst heq
          have h0:p.length < vc.size:=by omega
          rw [Array.getElem?_append_left (by simp; omega),Array.getElem?_append_right (by simp; omega)]
          simp only [Array.size_extract]
          have e0:p.length-(min p.length vc.size-0)=0:=by omega
          rw [e0,Array.getElem?_eq_getElem h0]
          simp only [Array.getD_eq_getD_getElem?,Array.getElem?_eq_getElem h0,Option.getD_some] at hsp
          simp [hsp]
         ·rw [Array.getElem?_append_right (by simp; omega)]
          simp only [Array.size_append,Array.size_extract,List.size_toArray,List.length_cons,List.length_nil,Array.getElem?_extract]
          have e0:min p.length vc.size-0=p.length:=by omega
          rw [e0]
          by_cases hi:i < vc.size
          ·rw [if_pos (by omega)]; congr 1; omega
          ·rw [if_neg (by omega),Array.getElem?_eq_none (by omega)]
        have hcell0:w.cell? ⟨b,0,none⟩=some (.func (.func f') #[] vc):=by
         have:=cell_of_heap hh (o:=0) (by rw [hc]; simp)
         rw [this,hcv]
        rw [hvc] at hcell0
        refine .rb f' xs ys b 0 (vc.extract 0 p.length) (vc.extract (p.length+1) vc.size) (.inr ⟨s,by simp,0,hm⟩) (by rw [Array.size_extract]; omega) (by rw [Array.size_extract]; omega) hcell0 ?_ ?_
        ·intro j y hj
         have hjl:j < p.length:=by rw [<-a2]; exact (List.getElem?_eq_some_iff.1 hj).1
         have:=a3 j y hj
         have e0:(vc.extract 0 p.length).getD j undef=vc.getD (0+j) undef:=by
          have:j < vc.size:=by omega
          simp [Array.getD_eq_getD_getElem?,show j < min p.length vc.size from by omega,this]
         rw [e0]
         refine this.wider fun b hb=>?_
         rcases hb with hb | ⟨t,ht,hm⟩
         ·exact .inl (roF_left h.zy hb)
         ·exact .inr ⟨t,by simp [ht],hm⟩
        ·intro j y hj
         have hjl:j < q.length:=by rw [<-b2]; exact (List.getElem?_eq_some_iff.1 hj).1
         have:=b3 j y hj
         have e0:(vc.extract (p.length+1) vc.size).getD j undef=vc.getD (p.length+1+j) undef:=by
          simp [Array.getD_eq_getD_getElem?,show j < vc.size-(p.length+1) from by omega,show p.length+1+j < vc.size from by omega]
         rw [e0]
         refine this.wider fun b hb=>?_
         rcases hb with hb | ⟨t,ht,hm⟩
         ·exact .inl (roF_right h.zy hb)
         ·exact .inr ⟨t,by simp [ht],hm⟩
      ·simp at hx
     ·simp at hsp
    ·split at hx
     ·rename_i n1 r1 xs h1
      simp only [Option.some.injEq,Prod.mk.injEq] at hx
      obtain ⟨rfl,rfl,rfl⟩:=hx
      obtain ⟨a1,a2,a3⟩:=frzL_sound (frz σ n) (fun j=>c.getD j undef) (fun hx hv=>ih hx hv) h.zy 0 h1 (fun j y hj=>by simpa using hr j y hj)
      refine ⟨fun t ht=>?_,?_⟩
      ·rcases List.mem_cons.1 ht with rfl | ht
       ·simp [hb]
       ·exact a1 t ht
      ·refine .pt xs off b 0 (fun j=>c.getD j undef) (.inr ⟨s,by simp,0,hm⟩) ?_ ?_
       ·intro j y hj
        rw [Nat.zero_add]
        exact cell_of_heap hh (by rw [hc,<-a2]; exact (List.getElem?_eq_some_iff.1 hj).1)
       ·intro j y hj
        have:=a3 j y hj
        rw [Nat.zero_add] at this
        refine this.wider fun b hb=>?_
        rcases hb with hb | ⟨t,ht,hm⟩
        ·exact .inl hb
        ·exact .inr ⟨t,by simp [ht],hm⟩
     ·simp at hx
   ·simp at hx
  ·split at hx
   ·rename_i n1 r1 xs h1
    simp only [Option.some.injEq,Prod.mk.injEq] at hx
    obtain ⟨rfl,rfl,rfl⟩:=hx
    cases hv with
    | agg _ vs hs hr =>
    obtain ⟨a1,a2,a3⟩:=frzL_sound (frz σ n) (fun j=>vs.getD j undef) (fun hx hv=>ih hx hv) h.zy 0 h1 (fun j y hj=>by simpa using hr j y hj)
    exact ⟨a1,.agg _ vs (by rw [hs,a2]) fun j y hj=>by simpa using a3 j y hj⟩
   ·simp at hx
  ·split at hx
   ·rename_i n1 r1 xs n2 r2 ys h1 h2
    simp only [Option.some.injEq,Prod.mk.injEq] at hx
    obtain ⟨rfl,rfl,rfl⟩:=hx
    cases hv with
    | fn _ _ _ vf vc hs hs' hr hr' =>
    obtain ⟨a1,a2,a3⟩:=frzL_sound (frz σ n) (fun j=>vf.getD j undef) (fun hx hv=>ih hx hv) h.zy 0 h1 (fun j y hj=>by simpa using hr j y hj)
    obtain ⟨b1,b2,b3⟩:=frzL_sound (frz σ n) (fun j=>vc.getD j undef) (fun hx hv=>ih hx hv) h.zy 0 h2 (fun j y hj=>by simpa using hr' j y hj)
    refine ⟨fun t ht=>?_,.fn _ _ _ vf vc (by rw [hs,a2]) (by rw [hs',b2]) (fun j y hj=>?_) (fun j y hj=>?_)⟩
    ·rcases List.mem_append.1 ht with ht | ht
     ·exact a1 t ht
     ·exact b1 t ht
    ·have:=a3 j y hj
     rw [Nat.zero_add] at this
     refine this.wider fun b hb=>?_
     rcases hb with hb | ⟨t,ht,hm⟩
     ·exact .inl (roF_left h.zy hb)
     ·exact .inr ⟨t,by simp [ht],hm⟩
    ·have:=b3 j y hj
     rw [Nat.zero_add] at this
     refine this.wider fun b hb=>?_
     rcases hb with hb | ⟨t,ht,hm⟩
     ·exact .inl (roF_right h.zy hb)
     ·exact .inr ⟨t,by simp [ht],hm⟩
   ·simp at hx
  ·split at hx
   ·rename_i hp
    simp only [Option.some.injEq,Prod.mk.injEq] at hx
    obtain ⟨rfl,rfl,rfl⟩:=hx
    cases hv with
    | mapx _ _ hx=>exact (pres_sh hp hx).elim
    | map=>exact ⟨by simp,.top _ rfl⟩
   ·simp at hx
  ·simp at hx
end
def St.mk' (σ:St) (d:Nat) (b:Blk) (out:V):St :=
 { (σ.drop d).kill [d] with env:=put d out ((σ.drop d).kill [d]).env,blk:=put d b ((σ.drop d).kill [d]).blk }
section
variable {C:Base} {σ:St} {a:Act} {w w':World} {μ:Mu} {Fz Fy:Nat->Prop} {G:Pg}
theorem Stays.sub {σ':St} (h:Stays C σ w w' μ Fy) (hs:∀ s,lk s σ'.blk≠none->lk s σ.blk≠none):Stays C σ' w w' μ Fy :=
 { h with own:=fun s hs'=>h.own s (hs s hs') }
theorem blk_mk (d:Nat) (b:Blk) (out:V) (t:Nat):lk t (σ.mk' d b out).blk=if t=d then some b else (lk t σ.blk).map (killB [d]):=by
 simp only [St.mk',lk_put]
 split
 ·rfl
 ·rename_i e
  simp [St.kill,St.drop,lk_map,lk_rm,e]
theorem shs_mk (d:Nat) (b:Blk) (out:V) (t:Nat):shs (σ.mk' d b out) t=if t=d then some (shp b) else shs σ t:=by
 simp only [shs,blk_mk]
 split
 ·rfl
 ·cases lk t σ.blk with
  | none=>rfl
  | some x=>simp [shp_killB]
theorem pres_dk {d t:Nat} (ht:lk t ((σ.drop d).kill [d]).blk≠none):t≠d/\lk t σ.blk≠none:=by
 simp only [St.kill,lk_map,St.drop,lk_rm] at ht
 by_cases e:t=d
 ·simp [e] at ht
 ·refine ⟨e,fun h=>?_⟩
  simp [e,h] at ht
theorem RepV.later (h:Sim C σ a w μ Fz Fy) {d:Nat} (hd:d < C.N) (hw:Stays C σ w w' μ Fy) {m:Option (Nat×Nat)} {b:Blk} {out x:V} {v:Value} (hx:∃ n,ment n d x=false) (hv:RepV μ (shs σ) Fz Fy w x v) :
  RepV (setMu μ d m) (shs (σ.mk' d b out)) Fz Fy w' x v :=
 hv.mono (fun _ x=>x) (fun _ x=>x) (fun b x=>hw.fixed b (h.zy b x)) hw.fixed hw.keeps (fun t=>t=d) (fun t ht=>.inr ⟨by rw [shs_mk,if_neg ht],by simp [setMu,ht]⟩) (fun l hl=>by simp only [setMu,if_neg (Ne.symm (ne_YN h.small hd))]; exact hl) (fun t ht=>by subst ht; exact hx)
theorem Sim.made (h:Sim C σ a w μ Fz Fy) {d:Nat} (hd:d < C.N) (hw:Stays C σ w w' μ Fy) (m:Option (Nat×Nat)) (b:Blk) (out:V) (v:Value)
  (hm:∀ r base,m=some (r,base)->C.mine r/\r < w'.heap.size/\(¬ Fy r/\¬ C.M r)/\∀ t,t≠d->lk t σ.blk≠none->∀ r' base',μ t=some (r',base')->r'≠r)
  (hb:RepB (setMu μ d m) (shs (σ.mk' d b out)) Fz Fy w' d b) (hv:RepV (setMu μ d m) (shs (σ.mk' d b out)) Fz Fy w' out v):Sim C (σ.mk' d b out) (a.put (some d) v) w' (setMu μ d m) Fz Fy:=by
 have h1:=((h.drop d).kill [d]).stays (w':=w') (hw.sub fun s hs=>(pres_dk hs).2)
 have h2:=h1.name d (ne_YN h.small hd) (St.free_kill (σ.drop d) [d] (by simp)) m b (fun r base hr=>by
  obtain ⟨k1,k2,k3,k4⟩:=hm r base hr
  exact ⟨k1,k2,k3,fun t ht hp=>k4 t ht (pres_dk hp).2⟩) hb
 exact h2.set d hd out v hv
theorem new_free (h:Sim C σ a w μ Fz Fy) {d:Nat} (o:Obj):∀ r base,some (w.heap.size,(0:Nat))=some (r,base)->C.mine r/\r < (w.alloc o).heap.size/\(¬ Fy r/\¬ C.M r)/\∀ t,t≠d->lk t σ.blk≠none->∀ r' base',μ t=some (r',base')->r'≠r:=by
 intro r base hr
 simp only [Option.some.injEq,Prod.mk.injEq] at hr
 obtain ⟨rfl,rfl⟩:=hr
 refine ⟨.inl h.big,by show w.heap.size < (w.heap.push o).size; simp,⟨fun hy=>absurd (h.yl _ hy) (by omega),fun hy=>absurd (h.fm _ hy).1 (by omega)⟩,fun t ht hp r' base' hm=>?_⟩
 have:=(h.live t hp r' base' hm).2.1
 omega
theorem stays_alloc (h:Sim C σ a w μ Fz Fy) (o:Obj):Stays C σ w (w.alloc o) μ Fy:=Stays.of_below h ((Below.refl _ w).alloc (Nat.le_refl _) o)
theorem heap_new (w:World) (o:Obj):(w.alloc o).heap[w.heap.size]? = some o:=by show (w.heap.push o)[w.heap.size]? = some o; simp
def allocA (G:Pg) (σ:St) (d t:Nat):Option St :=
 match lk t G.tbl with
 | some ti=>some (σ.mk' d (.box (ti.zero.map (.fv false))) (.ptr d 0))
 | none=>none
theorem allocA_sound (hT:TOk G) (h:Sim C σ a w μ Fz Fy) {d t:Nat} (hd:d < C.N) {σ':St} (hs:allocA G σ d t=some σ') (old:Value) :
  ∃ u w' μ',(Instr.alloc t true old).run G.P w = .ok u w'/\Sim C σ' (a.put (some d) u) w' μ' Fz Fy:=by
 unfold allocA at hs
 split at hs
 ·rename_i ti hti
  simp only [Option.some.injEq] at hs; subst hs
  obtain ⟨z,hz,_,hzs,hzl⟩:=zero_cells (μ:=μ) (sh:=shs σ) (Fz:=Fz) (Fy:=Fy) (w:=w) hT hti
  have hrun:(Instr.alloc t true old).run G.P w = .ok (.pointer (some ⟨w.heap.size,0,none⟩)) (w.alloc (.cells z.cells t)):=by
   simp [Instr.alloc,hz,newVar,newRow]
  refine ⟨_,_,_,hrun,h.made hd (stays_alloc h _) (some (w.heap.size,0)) _ _ _ (new_free h _) ?_ ?_⟩
  ·refine .box _ w.heap.size z.cells t (by simp [setMu]) (heap_new _ _) (by rw [hzs]; simp [(hT t ti hti).zsize]) fun j y hj=>?_
   simp only [List.getElem?_map,Option.map_eq_some_iff] at hj
   obtain ⟨x,hx,rfl⟩:=hj
   have hg:=(hT t ti hti).good
   rw [List.all_eq_true] at hg
   have e:z.cells.getD j undef=cval x:=by
    have:z.cells.toList[j]? = some (cval x):=by rw [hzl]; simp [hx]
    rw [Array.getElem?_toList] at this
    simp [Array.getD_eq_getD_getElem?,this]
   rw [e]
   exact .fv _ _ _ (rep_cval (hg x (List.mem_of_getElem? hx)))
  ·exact .ptr d 0 w.heap.size 0 (by simp [setMu])
 ·simp at hs
def boxA (σ:St) (d:Nat) (x:V):Option St :=
 match vcells σ x with
 | some cs=>some (σ.mk' d (.box (cs.map (killV [d]))) (.ptr d 0))
 | none=>none
theorem boxA_sound (h:Sim C σ a w μ Fz Fy) {d:Nat} (hd:d < C.N) {x:V} {σ':St} (hs:boxA σ d x=some σ') {v:Value} (hv:RepV μ (shs σ) Fz Fy w x v) (P:Program) (t:TypeId) :
  ∃ u w' μ',(Instr.box t v).run P w = .ok u w'/\Sim C σ' (a.put (some d) u) w' μ' Fz Fy:=by
 unfold boxA at hs
 split at hs
 ·rename_i cs hcs
  simp only [Option.some.injEq] at hs; subst hs
  obtain ⟨h1,h2⟩:=vcells_sound hcs hv
  have hrun:(Instr.box t v).run P w = .ok (.pointer (some ⟨w.heap.size,0,none⟩)) (w.alloc (.cells v.cells t)):=by
   simp [Instr.box,newVar,newRow]
  refine ⟨_,_,_,hrun,h.made hd (stays_alloc h _) (some (w.heap.size,0)) _ _ _ (new_free h _) ?_ ?_⟩
  ·refine .box _ w.heap.size v.cells t (by simp [setMu]) (heap_new _ _) (by simp [h1]) fun j y hj=>?_
   simp only [List.getElem?_map,Option.map_eq_some_iff] at hj
   obtain ⟨y',hy',rfl⟩:=hj
   by_cases hk:([d].any fun s=>ment 5 s y')=true
   ·simp only [killV,hk,if_true]; exact .top _
   ·simp only [killV,hk]
    refine RepV.later h hd (stays_alloc h _) ⟨5,by simpa using hk⟩ (h2 j y' hy')
  ·exact .ptr d 0 w.heap.size 0 (by simp [setMu])
 ·simp at hs
def frees (σ:St):List Nat->St
 | []=>σ
 | s :: r=>frees (σ.drop s) r
def elemA (σ:St) (x:V):Option (List Nat×FV) :=
 match frz σ 4 x with
 | some (ns,ro,y)=>if ro&&!flat y then none else some (ns,y)
 | none=>none
def elemsA (σ:St):List V->Option (List Nat×List FV)
 | []=>some ([],[])
 | x :: r=>match elemA σ x,elemsA σ r with
  | some (ns,y),some (ms,ys)=>some (ns++ms,y :: ys)
  | _,_=>none
theorem elemA_sound (h:Sim C σ a w μ Fz Fy) {x:V} {ns:List Nat} {y:FV} {v:Value} (hx:elemA σ x=some (ns,y)) (hv:RepV μ (shs σ) Fz Fy w x v) :
  (∀ s∈ns,lk s σ.blk≠none)/\RepF (Of μ Fz ns) w y v:=by
 unfold elemA at hx
 split at hx
 ·rename_i ns' ro y' hf
  split at hx
  ·simp at hx
  ·rename_i hro
   simp only [Option.some.injEq,Prod.mk.injEq] at hx
   obtain ⟨rfl,rfl⟩:=hx
   obtain ⟨h1,h2⟩:=frz_sound h 4 hf hv
   refine ⟨h1,?_⟩
   cases ro with
   | false=>exact h2
   | true=>exact h2.of_flat (by simpa using hro)
 ·simp at hx
theorem elemsA_sound (h:Sim C σ a w μ Fz Fy):∀ {xs:List V} {ns:List Nat} {ys:List FV} {vs:List Value},elemsA σ xs=some (ns,ys)->vs.length=xs.length ->
  (∀ (j:Nat) (x:V),xs[j]? = some x->∃ v,vs[j]? = some v/\RepV μ (shs σ) Fz Fy w x v)->(∀ s∈ns,lk s σ.blk≠none)/\ys.length=xs.length/\∀ (j:Nat) (y:FV),ys[j]? = some y->∃ v,vs[j]? = some v/\RepF (Of μ Fz ns) w y v
 | [],ns,ys,vs,hx,hl,hr=>by
  simp only [elemsA,Option.some.injEq,Prod.mk.injEq] at hx
  obtain ⟨rfl,rfl⟩:=hx
  simp
 | x :: xs,ns,ys,vs,hx,hl,hr=>by
  simp only [elemsA] at hx
  split at hx
  ·rename_i n1 y n2 ys' h1 h2
   simp only [Option.some.injEq,Prod.mk.injEq] at hx
   obtain ⟨rfl,rfl⟩:=hx
   cases vs with
   | nil=>simp at hl
   | cons v vs =>
   obtain ⟨v',hv',hr0⟩:=hr 0 x rfl
   simp only [List.getElem?_cons_zero,Option.some.injEq] at hv'; subst hv'
   obtain ⟨a1,a2⟩:=elemA_sound h h1 hr0
   obtain ⟨b1,b2,b3⟩:=elemsA_sound h (vs:=vs) h2 (by simpa using hl) (fun j x hj=>by simpa using hr (j+1) x (by simpa using hj))
   refine ⟨fun s hs=>?_,by simp [b2],fun j y hj=>?_⟩
   ·rcases List.mem_append.1 hs with hs | hs
    ·exact a1 s hs
    ·exact b1 s hs
   ·cases j with
    | zero =>
     simp only [List.getElem?_cons_zero,Option.some.injEq] at hj; subst hj
     refine ⟨v,rfl,a2.wider fun b hb=>?_⟩
     rcases hb with hb | ⟨s,hs,hm⟩
     ·exact .inl hb
     ·exact .inr ⟨s,List.mem_append_left _ hs,hm⟩
    | succ j =>
     obtain ⟨u,hu,hru⟩:=b3 j y (by simpa using hj)
     refine ⟨u,by simpa using hu,hru.wider fun b hb=>?_⟩
     rcases hb with hb | ⟨s,hs,hm⟩
     ·exact .inl hb
     ·exact .inr ⟨s,List.mem_append_right _ hs,hm⟩
  ·simp at hx
theorem Sim.freezes:∀ {ns:List Nat} {σ:St} {Fz Fy:Nat->Prop},Sim C σ a w μ Fz Fy->(∀ s∈ns,lk s σ.blk≠none)->Sim C (frees σ ns) a w μ (Of μ Fz ns) (Of μ Fy ns)
 | [],σ,Fz,Fy,h,_=>by
  have e1:Of μ Fz []=Fz:=by funext b; simp [Of]
  have e2:Of μ Fy []=Fy:=by funext b; simp [Of]
  rw [e1,e2]; exact h
 | s :: r,σ,Fz,Fy,h,hs=>by
  have h1:=h.freeze s (hs s (by simp))
  by_cases hsr:∀ t∈r,lk t (σ.drop s).blk≠none
  ·have h2:=Sim.freezes (ns:=r) h1 hsr
   have e:∀ Z:Nat->Prop,Of μ (fun b=>Z b\/∃ base,μ s=some (b,base)) r=Of μ Z (s :: r):=fun Z=>by
    funext b
    simp only [Of,List.mem_cons,eq_iff_iff]
    constructor
    ·rintro ((hz | hz) | ⟨t,ht,hm⟩)
     ·exact .inl hz
     ·exact .inr ⟨s,.inl rfl,hz⟩
     ·exact .inr ⟨t,.inr ht,hm⟩
    ·rintro (hz | ⟨t,(rfl | ht),hm⟩)
     ·exact .inl (.inl hz)
     ·exact .inl (.inr hm)
     ·exact .inr ⟨t,ht,hm⟩
   rw [e,e] at h2
   exact h2
  ·
   have hgo:∀ (r:List Nat) (σ:St) (Z Y:Nat->Prop),Sim C σ a w μ Z Y->(∀ t∈r,lk t σ.blk≠none\/∀ b base,μ t=some (b,base)->Z b)->Sim C (frees σ r) a w μ (Of μ Z r) (Of μ Y r):=by
    intro r
    induction r with
    | nil =>
     intro σ Z Y h _
     have e1:Of μ Z []=Z:=by funext b; simp [Of]
     have e2:Of μ Y []=Y:=by funext b; simp [Of]
     rw [e1,e2]; exact h
    | cons t r ih =>
     intro σ Z Y h hr
     have e:∀ Z:Nat->Prop,Of μ (fun b=>Z b\/∃ base,μ t=some (b,base)) r=Of μ Z (t :: r):=fun Z=>by
      funext b
      simp only [Of,List.mem_cons,eq_iff_iff]
      constructor
      ·rintro ((hz | hz) | ⟨u,hu,hm⟩)
       ·exact .inl hz
       ·exact .inr ⟨t,.inl rfl,hz⟩
       ·exact .inr ⟨u,.inr hu,hm⟩
      ·rintro (hz | ⟨u,(rfl | hu),hm⟩)
       ·exact .inl (.inl hz)
       ·exact .inl (.inr hm)
       ·exact .inr ⟨u,hu,hm⟩
     by_cases hp:lk t σ.blk≠none
     ·have h1:=h.freeze t hp
      have:=ih _ _ _ h1 (fun u hu=>by
       by_cases e:u=t
       ·subst e; exact .inr fun b base hm=>.inr ⟨base,hm⟩
       ·rcases hr u (List.mem_cons_of_mem _ hu) with h | h
        ·exact .inl (by simpa [St.drop,lk_rm,e] using h)
        ·exact .inr fun b base hm=>.inl (h b base hm))
      rw [e,e] at this; exact this
     ·have hz:∀ b base,μ t=some (b,base)->Z b:=(hr t (by simp)).resolve_left hp
      have e1:(fun b=>Z b\/∃ base,μ t=some (b,base))=Z:=by
       funext b; simp only [eq_iff_iff,or_iff_left_iff_imp]; rintro ⟨base,hm⟩; exact hz b base hm
      have e2:(fun b=>Y b\/∃ base,μ t=some (b,base))=Y:=by
       funext b; simp only [eq_iff_iff,or_iff_left_iff_imp]; rintro ⟨base,hm⟩; exact h.zy _ (hz b base hm)
      have:=ih _ _ _ (h.drop t) (fun u hu=>by
       rcases hr u (List.mem_cons_of_mem _ hu) with h' | h'
       ·by_cases e:u=t
        ·subst e; exact .inr hz
        ·exact .inl (by simpa [St.drop,lk_rm,e] using h')
       ·exact .inr h')
      rw [<-e,<-e,e1,e2]; exact this
   exact hgo (s :: r) σ Fz Fy h fun t ht=>.inl (hs t ht)
end
end Go.Proofs.YtejodhjhddnbeaaDoor.E
