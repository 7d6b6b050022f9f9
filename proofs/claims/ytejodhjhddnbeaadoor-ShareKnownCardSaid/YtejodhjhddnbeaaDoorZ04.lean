/-
  The engine: a symbolic run of a body, proved sound once for any program. Conditions: none.
-/
import Derived.Test.YtejodhjhddnbeaaDoorZ03
import Derived.MapKept
import Derived.RangeFuncRecord
import Derived.Lib.ConvBytes
import Derived.Laws.IdiomRangeMap
import Derived.CallsIn
import Derived.ControlIn
import Derived.Scope
import Derived.TacticsIn
import Derived.LoopNIn
import Derived.OrdersIn
set_option linter.unusedVariables false
set_option linter.unusedSimpArgs false
namespace Go.Proofs.YtejodhjhddnbeaaDoor.E
open Go Go.RowKit
def kmatch (G:Pg) (t:Nat) (x y:FV):Option Bool :=
 match lk t G.tbl with
 | some ⟨_,_,_,.int _⟩=>match x,y with
  | .int k a,.int j b=>if k=j then some (a==b) else none
  | _,_=>none
 | some ⟨_,_,_,.bool⟩=>match x,y with
  | .bool a,.bool b=>some (a==b)
  | _,_=>none
 | some ⟨_,_,_,.string⟩=>match x,y with
  | .str a,.str b=>some (a==b)
  | _,_=>none
 | some ⟨_,_,_,.struct _⟩=>match x,y with
  | .agg xs,.agg ys=>match lk t G.eqs with
   | some n=>if G.keys.contains t=true then fscals n xs ys else none
   | none=>none
  | _,_=>none
 | _=>none
def findF {β:Type} (m:FV->Option Bool):Nat->List (FV×β)->Option (Option (Nat×β))
 | _,[]=>some none
 | i,(k,v) :: r=>match m k with
  | some true=>some (some (i,v))
  | some false=>findF m (i+1) r
  | none=>none
section
variable {C:Base} {σ:St} {a:Act} {w w':World} {μ:Mu} {Fz Fy:Nat->Prop} {G:Pg}
theorem fscals_refl:∀ {q:List Sc} {xs ys:List FV} {us vs:List Value} {Z Z':Nat->Prop},fscals q xs ys=some true->us.length=xs.length->vs.length=ys.length ->
  (∀ j y,xs[j]? = some y->RepF Z w y (us.getD j undef))->(∀ j y,ys[j]? = some y->RepF Z' w y (vs.getD j undef))->us=vs/\xs=ys
 | [],[],[],[],[],_,_,_,_,_,_,_=>⟨rfl,rfl⟩
 | q :: qs,x :: xs,y :: ys,u :: us,v :: vs,Z,Z',h,hu,hv,h1,h2=>by
  simp only [fscals] at h
  split at h
  ·rename_i p r hp hr
   simp only [Option.some.injEq,Bool.and_eq_true] at h
   obtain ⟨rfl,rfl⟩:=h
   obtain ⟨e1,e2⟩:=fscals_refl hr (by simpa using hu) (by simpa using hv) (fun j z hj=>by simpa using h1 (j+1) z (by simpa using hj)) (fun j z hj=>by simpa using h2 (j+1) z (by simpa using hj))
   have k1:=h1 0 x rfl
   have k2:=h2 0 y rfl
   simp only [List.getD_cons_zero] at k1 k2
   unfold fscal at hp
   split at hp
   ·split at hp
    ·rename_i hc
     simp only [Option.some.injEq,beq_iff_eq] at hp
     subst hc; subst hp
     cases k1; cases k2
     exact ⟨by rw [e1],by rw [e2]⟩
    ·cases hp
   ·simp only [Option.some.injEq,beq_iff_eq] at hp; subst hp
    cases k1; cases k2
    exact ⟨by rw [e1],by rw [e2]⟩
   ·simp only [Option.some.injEq] at hp
    have hp:=(bytes_eq _ _).1 hp
    subst hp
    cases k1; cases k2
    exact ⟨by rw [e1],by rw [e2]⟩
   ·cases hp
  ·cases h
 | [],_ :: _,_,_,_,_,_,h,_,_,_,_=>by simp [fscals] at h
 | [],[],_ :: _,_,_,_,_,h,_,_,_,_=>by simp [fscals] at h
 | _ :: _,[],_,_,_,_,_,h,_,_,_,_=>by simp [fscals] at h
 | _ :: _,_ :: _,[],_,_,_,_,h,_,_,_,_=>by simp [fscals] at h
 | _,[],_,_ :: _,_,_,_,_,hu,_,_,_=>by simp at hu
 | _,_,[],_,_ :: _,_,_,_,_,hv,_,_=>by simp at hv
 | _,_ :: _,_,[],_,_,_,_,hu,_,_,_=>by simp at hu
 | _,_,_ :: _,_,[],_,_,_,_,hv,_,_=>by simp at hv
def plainK:TK->Bool
 | .int _=>true
 | .bool=>true
 | .string=>true
 | _=>false
theorem kmatch_plain (hT:TOk G) {t:Nat} {ti:TI} (ht:lk t G.tbl=some ti) (hp:plainK ti.kind=true) {d:TypeDesc} (hd:G.P.underlying t=some d) {x y:FV} {r:Bool} (h:kmatch G t x y=some r) {Z Z':Nat->Prop} {u v:Value} (hx:RepF Z w x u) (hy:RepF Z' w y v) :
  Instr.sameNow d u v=some r/\(r=true->u=v):=by
 obtain ⟨d',h1,h2⟩:=(hT.tt t ti ht).under
 rw [hd] at h1
 simp only [Option.some.injEq] at h1; subst h1
 obtain ⟨sz,bt,zr,kd⟩:=ti
 unfold kmatch at h
 rw [ht] at h
 cases kd with
 | int q =>
  have e:d = .int q:=h2
  subst e
  simp only at h
  split at h
  ·split at h
   ·rename_i hc; subst hc
    simp only [Option.some.injEq] at h; subst h
    cases hx; cases hy
    exact ⟨by simp [Instr.sameNow],fun e=>by simp at e; rw [e]⟩
   ·cases h
  ·cases h
 | bool =>
  have e:d = .bool:=h2
  subst e
  simp only at h
  split at h
  ·simp only [Option.some.injEq] at h; subst h
   cases hx; cases hy
   exact ⟨by simp [Instr.sameNow],fun e=>by simp at e; rw [e]⟩
  ·cases h
 | string =>
  have e:d = .string:=h2
  subst e
  simp only at h
  split at h
  ·simp only [Option.some.injEq] at h; subst h
   cases hx; cases hy
   exact ⟨by simp [Instr.sameNow],fun e=>by rw [(MapKept.bytes_beq _ _).1 e]⟩
  ·cases h
 | _=>simp [plainK] at hp
theorem kmatch_agg (hT:TOk G) {t:Nat} {ti:TI} (ht:lk t G.tbl=some ti) (hp:plainK ti.kind=false) {d:TypeDesc} (hd:G.P.underlying t=some d) {x y:FV} {r:Bool} (h:kmatch G t x y=some r) {Z Z':Nat->Prop} {u v:Value} (hx:RepF Z w x u) (hy:RepF Z' w y v) :
  (∀ a b,Instr.sameNow d a b=none)/\(Op.equal t u v).run G.P w = .ok r w/\(r=true->u=v):=by
 obtain ⟨d',h1,h2⟩:=(hT.tt t ti ht).under
 rw [hd] at h1
 simp only [Option.some.injEq] at h1; subst h1
 obtain ⟨sz,bt,zr,kd⟩:=ti
 unfold kmatch at h
 rw [ht] at h
 cases kd with
 | struct fs =>
  obtain ⟨fields,rfl,_⟩:=h2
  simp only at h
  split at h
  ·rename_i xs ys
   split at h
   ·rename_i n hn
    split at h
    ·cases hx with
     | agg _ us hus hru =>
     cases hy with
     | agg _ vs hvs hrv =>
     have e:=fscals_sound (us:=us.toList) (vs:=vs.toList) h (by simpa using hus) (by simpa using hvs) (fun j y hj=>by have:=hru j y hj; simpa [Array.getD_eq_getD_getElem?,List.getD_eq_getElem?_getD] using this) (fun j y hj=>by have:=hrv j y hj; simpa [Array.getD_eq_getD_getElem?,List.getD_eq_getElem?_getD] using this)
     refine ⟨fun a b=>by cases a<;>cases b<;>rfl,(hT.ee t n hn).eq us vs r w e,fun er=>?_⟩
     subst er
     obtain ⟨e1,_⟩:=fscals_refl (us:=us.toList) (vs:=vs.toList) h (by simpa using hus) (by simpa using hvs) (fun j y hj=>by have:=hru j y hj; simpa [Array.getD_eq_getD_getElem?,List.getD_eq_getElem?_getD] using this) (fun j y hj=>by have:=hrv j y hj; simpa [Array.getD_eq_getD_getElem?,List.getD_eq_getElem?_getD] using this)
     rw [Array.toList_inj.1 e1]
    ·cases h
   ·cases h
  ·cases h
 | int=>simp [plainK] at hp
 | bool=>simp [plainK] at hp
 | string=>simp [plainK] at hp
 | _=>simp at h
def Ents (R:V->Value->Prop) (Fz:Nat->Prop) (w:World) (fs:List (FV×V)) (es:List MapEntry):Prop:=es.length=fs.length/\∀ (j:Nat) (y:FV×V),fs[j]? = some y->∃ m,es[j]? = some m/\RepF Fz w y.1 m.key/\R y.2 m.val
theorem find_now {R:V->Value->Prop} {t:Nat} {d:TypeDesc} {x:FV} {u:Value} (hm:∀ (y:FV) (v:Value) (r:Bool),kmatch G t x y=some r->RepF Fz w y v->Instr.sameNow d u v=some r/\(r=true->u=v)):∀ {fs:List (FV×V)} {es:List MapEntry} {i:Nat} {res:Option (Nat×V)},findF (kmatch G t x) i fs=some res->Ents R Fz w fs es ->
  (res=none/\Instr.findNow d u es i=some none)\/∃ j y e,res=some (i+j,y)/\es[j]? = some e/\fs[j]?.map (·.2)=some y/\e.key=u/\R y e.val/\Instr.findNow d u es i=some (some (i+j,e.val))
 | [],[],i,res,h,_=>by
  simp only [findF,Option.some.injEq] at h
  exact .inl ⟨h.symm,rfl⟩
 | (k,v) :: fs,e :: es,i,res,h,he=>by
  obtain ⟨m,hm0,hk,hv⟩:=he.2 0 (k,v) rfl
  simp only [List.getElem?_cons_zero,Option.some.injEq] at hm0; subst hm0
  simp only [findF] at h
  split at h
  ·rename_i hr
   obtain ⟨h1,h2⟩:=hm k e.key true hr hk
   simp only [Option.some.injEq] at h; subst h
   exact .inr ⟨0,v,e,rfl,rfl,rfl,(h2 rfl).symm,hv,by simp [Instr.findNow,h1]⟩
  ·rename_i hr
   obtain ⟨h1,_⟩:=hm k e.key false hr hk
   rcases find_now hm h ⟨by simpa using he.1,fun j y hj=>by simpa using he.2 (j+1) y (by simpa using hj)⟩ with ⟨k1,k2⟩ | ⟨j,y,e',k1,k2,k3,k4,k5,k6⟩
   ·exact .inl ⟨k1,by simp [Instr.findNow,h1,k2]⟩
   ·exact .inr ⟨j+1,y,e',by rw [k1]; simp; omega,by simpa using k2,by simpa using k3,k4,k5,by simp [Instr.findNow,h1,k6]; omega⟩
  ·cases h
 | [],_ :: _,_,_,_,he=>by have:=he.1; simp at this
 | _ :: _,[],_,_,_,he=>by have:=he.1; simp at this
theorem find_asking {R:V->Value->Prop} {t:Nat} {x:FV} {u:Value} (hm:∀ (y:FV) (v:Value) (r:Bool),kmatch G t x y=some r->RepF Fz w y v->(Op.equal t u v).run G.P w = .ok r w/\(r=true->u=v)):∀ {fs:List (FV×V)} {es:List MapEntry} {i:Nat} {res:Option (Nat×V)},findF (kmatch G t x) i fs=some res->Ents R Fz w fs es ->
  (res=none/\(Instr.findAsking t u es i).run G.P w = .ok none w)\/∃ j y e,res=some (i+j,y)/\es[j]? = some e/\fs[j]?.map (·.2)=some y/\e.key=u/\R y e.val/\(Instr.findAsking t u es i).run G.P w = .ok (some (i+j,e.val)) w
 | [],[],i,res,h,_=>by
  simp only [findF,Option.some.injEq] at h
  exact .inl ⟨h.symm,rfl⟩
 | (k,v) :: fs,e :: es,i,res,h,he=>by
  obtain ⟨m,hm0,hk,hv⟩:=he.2 0 (k,v) rfl
  simp only [List.getElem?_cons_zero,Option.some.injEq] at hm0; subst hm0
  simp only [findF] at h
  split at h
  ·rename_i hr
   obtain ⟨h1,h2⟩:=hm k e.key true hr hk
   simp only [Option.some.injEq] at h; subst h
   exact .inr ⟨0,v,e,rfl,rfl,rfl,(h2 rfl).symm,hv,by simp [Instr.findAsking,h1,Sem.run_bind]⟩
  ·rename_i hr
   obtain ⟨h1,_⟩:=hm k e.key false hr hk
   rcases find_asking hm h ⟨by simpa using he.1,fun j y hj=>by simpa using he.2 (j+1) y (by simpa using hj)⟩ with ⟨k1,k2⟩ | ⟨j,y,e',k1,k2,k3,k4,k5,k6⟩
   ·exact .inl ⟨k1,by simp [Instr.findAsking,h1,k2,Sem.run_bind]⟩
   ·refine .inr ⟨j+1,y,e',by rw [k1]; simp; omega,by simpa using k2,by simpa using k3,k4,k5,?_⟩
    simp only [Instr.findAsking,Sem.run_bind,h1,Result.andThen_ok,Bool.false_eq_true,if_false,k6]
    rw [show i+1+j=i+(j+1) from by omega]
  ·cases h
 | [],_ :: _,_,_,_,he=>by have:=he.1; simp at this
 | _ :: _,[],_,_,_,he=>by have:=he.1; simp at this
theorem findKey_sound (hT:TOk G) {t:Nat} {ti:TI} (ht:lk t G.tbl=some ti) {Z:Nat->Prop} {x:FV} {u:Value} (hx:RepF Z w x u) {R:V->Value->Prop} {fs:List (FV×V)} {es:List MapEntry} {res:Option (Nat×V)} (h:findF (kmatch G t x) 0 fs=some res) (he:Ents R Fz w fs es) :
  (res=none/\(Instr.findKey t u es).run G.P w = .ok none w)\/∃ j y e,res=some (j,y)/\es[j]? = some e/\fs[j]?.map (·.2)=some y/\e.key=u/\R y e.val/\(Instr.findKey t u es).run G.P w = .ok (some (j,e.val)) w:=by
 obtain ⟨d,hd,_⟩:=(hT.tt t ti ht).under
 have hu:(underlying t).run G.P w = .ok d w:=by simp [underlying,hd]
 cases hp:plainK ti.kind with
 | true =>
  rcases find_now (d:=d) (u:=u) (fun y v r hr hy=>kmatch_plain hT ht hp hd hr hx hy) h he with ⟨k1,k2⟩ | ⟨j,y,e,k1,k2,k3,k4,k5,k6⟩
  ·exact .inl ⟨k1,by simp [Instr.findKey,Sem.run_bind,hu,k2]⟩
  ·exact .inr ⟨j,y,e,by simpa using k1,k2,k3,k4,k5,by simp [Instr.findKey,Sem.run_bind,hu,k6]⟩
 | false =>
  have hm:∀ (y:FV) (v:Value) (r:Bool),kmatch G t x y=some r->RepF Fz w y v->(Op.equal t u v).run G.P w = .ok r w/\(r=true->u=v):=fun y v r hr hy=>(kmatch_agg hT ht hp hd hr hx hy).2
  match fs,es,he,h with
  | [],[],_,h =>
   simp only [findF,Option.some.injEq] at h
   exact .inl ⟨h.symm,by simp [Instr.findKey,hu,Instr.findNow]⟩
  | (k,v) :: fs,e :: es,he,h =>
   have hn:Instr.findNow d u (e :: es) 0=none:=by
    obtain ⟨m,hm0,hk,hv⟩:=he.2 0 (k,v) rfl
    have:∃ r,kmatch G t x k=some r:=by
     simp only [findF] at h
     split at h
     ·exact ⟨_,‹_›⟩
     ·exact ⟨_,‹_›⟩
     ·cases h
    obtain ⟨r,hr⟩:=this
    have:=(kmatch_agg hT ht hp hd hr hx hk).1
    simp [Instr.findNow,this]
   have hrun:∀ z,(Instr.findAsking t u (e :: es) 0).run G.P w=z->(Instr.findKey t u (e :: es)).run G.P w=z:=fun z hz=>by simp [Instr.findKey,Sem.run_bind,hu,hn,hz]
   rcases find_asking hm h he with ⟨k1,k2⟩ | ⟨j,y,e',k1,k2,k3,k4,k5,k6⟩
   ·exact .inl ⟨k1,hrun _ k2⟩
   ·exact .inr ⟨j,y,e',by simpa using k1,k2,k3,k4,k5,by rw [Nat.zero_add] at k6; exact hrun _ k6⟩
  | [],_ :: _,he,_=>have:=he.1; simp at this
  | _ :: _,[],he,_=>have:=he.1; simp at this
def keyOK (G:Pg) (t:Nat) (x:FV):Bool :=
 match kmatch G t x x with
 | some true=>true
 | _=>false
theorem bits_scalars:∀ {q:List Sc} (l:List Value),eqvs q l l=some true->(l.zip l).all (fun (x,y)=>Instr.sameBits 9999 x y)=true
 | _,[],_=>rfl
 | [],_ :: _,h=>by simp [eqvs] at h
 | q :: qs,v :: l,h=>by
  simp only [eqvs] at h
  split at h
  ·rename_i p r hp hr
   simp only [Option.some.injEq,Bool.and_eq_true] at h
   obtain ⟨rfl,rfl⟩:=h
   simp only [List.zip_cons_cons,List.all_cons,bits_scalars l hr,Bool.and_true]
   cases v with
   | int k a=>show (k==k&&a==a)=true; simp
   | bool c=>show (c==c)=true; simp
   | string c=>show (c==c)=true; exact (bytes_eq c c).2 rfl
   | _=>cases q<;>simp [eqv] at hp
  ·cases h
theorem check_plain {P:Program} {t:Nat} {d:TypeDesc} {w:World} (hd:P.underlying t=some d) (h:plainK (match d with | .int k=>.int k | .bool=>.bool | .string=>.string | _=>.other)=true) (em:Bool) (u:Value):(Instr.checkKey em 10000 t u).run P w = .ok () w:=by
 rw [show (10000:Nat)=9999+1 from rfl,Instr.checkKey]
 simp only [Sem.run_bind,underlying,run_program,hd,Result.andThen_ok,Sem.run_pure]
 cases d<;>first | rfl | (simp [plainK] at h)
theorem stays_same {P:Program} {w:World} {u:Value} (h:Instr.sameBits 10000 u u=true):(Instr.keyThatStays u u).run P w = .ok u w:=by
 unfold Instr.keyThatStays
 rw [if_pos h]; rfl
theorem keyOK_sound (hT:TOk G) {t:Nat} {ti:TI} (ht:lk t G.tbl=some ti) {x:FV} (h:keyOK G t x=true) {Z:Nat->Prop} {u:Value} (hx:RepF Z w x u) (em:Bool):(Instr.checkKey em 10000 t u).run G.P w = .ok () w/\(Instr.keyThatStays u u).run G.P w = .ok u w:=by
 unfold keyOK at h
 split at h
 ·rename_i hm
  obtain ⟨d,hd,hk⟩:=(hT.tt t ti ht).under
  obtain ⟨sz,bt,zr,kd⟩:=ti
  unfold kmatch at hm
  rw [ht] at hm
  cases kd with
  | int q =>
   have e:d = .int q:=hk
   subst e
   cases x with
   | int k a=>cases hx; exact ⟨check_plain hd rfl em _,stays_same (by show (_==_&&_==_)=true; simp)⟩
   | _=>simp at hm
  | bool =>
   have e:d = .bool:=hk
   subst e
   cases x with
   | bool a=>cases hx; exact ⟨check_plain hd rfl em _,stays_same (by show (_==_)=true; simp)⟩
   | _=>simp at hm
  | string =>
   have e:d = .string:=hk
   subst e
   cases x with
   | str a =>
    cases hx
    refine ⟨check_plain hd rfl em _,stays_same ?_⟩
    show (a==a)=true
    simpa using hm
   | _=>simp at hm
  | struct fs =>
   cases x with
   | agg xs =>
    simp only at hm
    split at hm
    ·rename_i n hn
     split at hm
     ·rename_i hc
      cases hx with
      | agg _ us hus hru =>
      have hru':∀ (j:Nat) (y:FV),xs[j]? = some y->RepF Z w y (us.toList.getD j undef):=fun j y hj=>by have:=hru j y hj; simpa [Array.getD_eq_getD_getElem?,List.getD_eq_getElem?_getD] using this
      have e:=fscals_sound (us:=us.toList) (vs:=us.toList) hm (by simpa using hus) (by simpa using hus) hru' hru'
      refine ⟨hT.kk t n (by simpa using hc) hn us em w e,stays_same ?_⟩
      show (us.size==us.size&&(us.toList.zip us.toList).all fun (x,y)=>Instr.sameBits 9999 x y)=true
      simp only [BEq.rfl,Bool.true_and]; exact bits_scalars us.toList e
     ·cases hm
    ·cases hm
   | _=>simp at hm
  | _=>simp at hm
 ·cases h
def mkMapA (σ:St) (d:Nat):St:=σ.mk' d (.mp []) (.map d)
def lookMap (G:Pg) (σ:St) (t:Nat) (p:V) (x:FV) (ok:Bool):Option V :=
 match lk t G.tbl with
 | some ⟨_,_,_,.map kt et⟩=>match p with
  | .map s=>match lk s σ.blk,lk kt G.tbl,lk et G.tbl with
   | some (.mp es),some _,some ti=>match ti.kind.agg,ti.zero with
    | false,[z]=>if keyOK G kt x=true then match findF (kmatch G kt x) 0 es with
      | some (some (_,v))=>some (if ok=true then .tup [v,.fv false (.bool true)] else v)
      | some none=>some (if ok=true then .tup [.fv false z,.fv false (.bool false)] else .fv false z)
      | none=>none
     else none
    | _,_=>none
   | _,_,_=>none
  | _=>none
 | _=>none
def updV (G:Pg) (σ:St) (t:Nat) (p:V) (kx:FV) (y:V):Option St :=
 match lk t G.tbl with
 | some ⟨_,_,_,.map kt _⟩=>match p with
  | .map s=>match lk s σ.blk,lk kt G.tbl with
   | some (.mp es),some _ =>
    if keyOK G kt kx=true/\flat kx=true then match findF (kmatch G kt kx) 0 es with
     | some (some (i,_))=>some { σ with blk:=put s (.mp (es.set i (kx,y))) σ.blk }
     | some none=>some { σ with blk:=put s (.mp (es++[(kx,y)])) σ.blk }
     | none=>none
    else none
   | _,_=>none
  | _=>none
 | _=>none
def updMap (G:Pg) (σ:St) (t:Nat) (p k x:V):Option St :=
 match elemA σ k,elemA σ x with
 | some ([],kx),some (ns,y)=>updV G (frees σ ns) t p kx (.fv false y)
 | _,_=>none
theorem mkMapA_sound (h:Sim C σ a w μ Fz Fy) {d:Nat} (hd:d < C.N) (P:Program) (t:TypeId):∃ u w' μ',(Instr.makeMap t none).run P w = .ok u w'/\Sim C (mkMapA σ d) (a.put (some d) u) w' μ' Fz Fy:=by
 refine ⟨.map (some w.heap.size),w.alloc (.map #[] 0),_,by simp [Instr.makeMap],h.made hd (stays_alloc h _) (some (w.heap.size,0)) _ _ _ (new_free h _) ?_ ?_⟩
 ·exact .mp [] w.heap.size #[] (by simp [setMu]) (heap_new _ _) rfl (by simp)
 ·exact .map d w.heap.size 0 (by simp [setMu])
theorem ents_of {s:Nat} {es:List (FV×V)} (hB:RepB μ (shs σ) Fz Fy w s (.mp es)):∃ b c,μ s=some (b,0)/\w.heap[b]? = some (.map c es.length)/\Ents (RepV μ (shs σ) Fz Fy w) Fz w es c.toList/\∀ (j:Nat) (m:MapEntry),c[j]? = some m->m.born=j:=by
 cases hB with
 | mp _ b c hm hh hc hr =>
  refine ⟨b,c,hm,hh,⟨by simpa using hc,fun j y hj=>?_⟩,fun j m hj=>?_⟩
  ·obtain ⟨m,h1,h0,h2,h3⟩:=hr j y hj
   exact ⟨m,by simpa using h1,h2,h3⟩
  ·have hjl:j < es.length:=by rw [<-hc]; exact (Array.getElem?_eq_some_iff.1 hj).1
   obtain ⟨m',h1,h0,_⟩:=hr j _ (List.getElem?_eq_getElem hjl)
   rw [hj] at h1
   simp only [Option.some.injEq] at h1
   subst h1; exact h0
theorem map_val {s:Nat} {v:Value} (hs:lk s σ.blk≠none) (hv:RepV μ (shs σ) Fz Fy w (.map s) v):∃ b base,μ s=some (b,base)/\v = .map (some b):=by
 cases hv with
 | mapx _ _ h =>
  exfalso
  cases hb:lk s σ.blk with
  | none=>exact hs hb
  | some x=>simp [shs,hb] at h
 | map _ b base hm=>exact ⟨b,base,hm,rfl⟩
theorem lookMap_sound (hT:TOk G) (h:Sim C σ a w μ Fz Fy) {t:Nat} {p r:V} {x:FV} {ok:Bool} (hl:lookMap G σ t p x ok=some r) {v:Value} (hv:RepV μ (shs σ) Fz Fy w p v) {Z:Nat->Prop} {u:Value} (hx:RepF Z w x u) :
  ∃ y,(Instr.lookup t v u ok).run G.P w = .ok y w/\RepV μ (shs σ) Fz Fy w r y:=by
 unfold lookMap at hl
 split at hl
 ·rename_i sz bt zr kt et htm
  split at hl
  ·rename_i s
   split at hl
   ·rename_i es tik ti hb hk he
    split at hl
    ·rename_i z hag hz
     split at hl
     ·rename_i hkey
      obtain ⟨b,c,hm,hh,hen,_⟩:=ents_of (h.blk s _ hb)
      obtain ⟨b',base,hm',rfl⟩:=map_val (by simp [hb]) hv
      rw [hm] at hm'
      simp only [Option.some.injEq,Prod.mk.injEq] at hm'
      obtain ⟨rfl,_⟩:=hm'
      obtain ⟨dm,hdm,hkm⟩:=(hT.tt t _ htm).under
      have hdm':dm = .map kt et:=hkm
      subst hdm'
      have hu:(underlying t).run G.P w = .ok (.map kt et) w:=by simp [underlying,hdm]
      obtain ⟨hck,_⟩:=keyOK_sound hT hk hkey hx c.isEmpty
      have hzero:=hT.zv et ti z he hag hz w
      have hgz:zgood z=true:=by have:=(hT.tt et ti he).good; rw [hz] at this; simpa using this
      have hobj:(getObj b).run G.P w = .ok (.map c es.length) w:=MapKept.run_getObj_map hh
      split at hl
      ·rename_i i y hf
       simp only [Option.some.injEq] at hl; subst hl
       rcases findKey_sound hT hk hx hf hen with ⟨k1,_⟩ | ⟨j,y',e,k1,k2,k3,k4,k5,k6⟩
       ·cases k1
       ·simp only [Option.some.injEq,Prod.mk.injEq] at k1
        obtain ⟨rfl,rfl⟩:=k1
        refine ⟨if ok=true then .tuple #[e.val,.bool true] else e.val,?_,?_⟩
        ·simp [Instr.lookup,hu,Sem.run_bind,hobj,hck,k6]
        ·cases ok with
         | false=>exact k5
         | true =>
          refine .tup _ _ rfl fun j yy hj=>?_
          match j,hj with
          | 0,hj=>cases hj; exact k5
          | 1,hj=>cases hj; exact .fv _ _ _ (.bool _)
      ·rename_i hf
       simp only [Option.some.injEq] at hl; subst hl
       rcases findKey_sound hT hk hx hf hen with ⟨_,k2⟩ | ⟨j,y',e,k1,_⟩
       ·refine ⟨if ok=true then .tuple #[cval z,.bool false] else cval z,?_,?_⟩
        ·simp [Instr.lookup,hu,Sem.run_bind,hobj,hck,k2,hzero]
        ·cases ok with
         | false=>exact .fv _ _ _ (rep_cval hgz)
         | true =>
          refine .tup _ _ rfl fun j yy hj=>?_
          match j,hj with
          | 0,hj=>cases hj; exact .fv _ _ _ (rep_cval hgz)
          | 1,hj=>cases hj; exact .fv _ _ _ (.bool _)
       ·cases k1
      ·cases hl
     ·cases hl
    ·cases hl
   ·cases hl
  ·cases hl
 ·cases hl
theorem setMap_stays (h:Sim C σ a w μ Fz Fy) {s b:Nat} (hs:lk s σ.blk≠none) (hm:μ s=some (b,0)) {c c':Array MapEntry} {k k':Nat} (hh:w.heap[b]? = some (.map c k)) :
  Stays C (σ.drop s) w (w.putObj b (.map c' k')) μ Fy:=by
 have hlive:=h.live s hs b 0 hm
 have hother:∀ r,r≠b->(w.putObj b (.map c' k')).heap[r]? = w.heap[r]?:=fun r hr=>World.putObj_heap_other hr
 refine { keeps:=fun r x e' fr hx=>⟨x,(hother r (fun e=>by subst e; rw [hh] at hx; cases hx)).trans hx,rfl⟩,fixed:=fun r hr=>hother r (fun e=>hlive.2.2 (e▸hr)),own:=fun t ht r base' hr=>hother r (fun e=>?_),below:=?_,size:=by simp,rest:=fun r hr=>hother r (fun e=>(h.fm r hr).2.2 s hs 0 (e▸hm)),drawn:=Nat.le_refl _ }
 ·simp only [St.drop,lk_rm] at ht
  by_cases et:t=s
  ·simp [et] at ht
  ·simp only [et,if_false] at ht
   exact h.inj t s ht hs et r base' b 0 hr hm e
 ·have hB:=h.below
  refine ⟨hB.os,hB.tape,hB.output,by simpa using hB.size,fun q hq hx=>(hother q (fun e=>?_)).trans (hB.block q hq hx),fun q x e fr hx hq hc=>?_,hB.drawn⟩
  ·subst e
   rcases hlive.1 with k1 | k1
   ·omega
   ·exact hx k1
  ·obtain ⟨x',e1,e2⟩:=hB.kept q x e fr hx hq hc
   exact ⟨x',(hother q (fun e=>by subst e; rw [hh] at e1; cases e1)).trans e1,e2⟩
theorem updV_sound (hT:TOk G) (h:Sim C σ a w μ Fz Fy) {t:Nat} {p y:V} {kx:FV} {σ':St} (hs:updV G σ t p kx y=some σ') {v uk ux:Value} (hv:RepV μ (shs σ) Fz Fy w p v) {Z:Nat->Prop} (hkr:RepF Z w kx uk) (hx:RepV μ (shs σ) Fz Fy w y ux) :
  ∃ w',(Instr.mapUpdate t v uk ux).run G.P w = .ok () w'/\Sim C σ' a w' μ Fz Fy:=by
 unfold updV at hs
 split at hs
 ·rename_i sz bt zr kt et htm
  split at hs
  ·rename_i s
   split at hs
   ·rename_i es tik hb hkt
    split at hs
    ·rename_i hc
     obtain ⟨hkey,hflat⟩:=hc
     obtain ⟨b,c,hm,hh,hen,hborn⟩:=ents_of (h.blk s _ hb)
     obtain ⟨b',base,hm',rfl⟩:=map_val (by simp [hb]) hv
     rw [hm] at hm'
     simp only [Option.some.injEq,Prod.mk.injEq] at hm'
     obtain ⟨rfl,_⟩:=hm'
     obtain ⟨dm,hdm,hkm⟩:=(hT.tt t _ htm).under
     have hdm':dm = .map kt et:=hkm
     subst hdm'
     have hu:(underlying t).run G.P w = .ok (.map kt et) w:=by simp [underlying,hdm]
     have hkf:∀ Z' W',RepF Z' W' kx uk:=fun Z' W'=>hkr.of_flat hflat
     obtain ⟨hck,hst⟩:=keyOK_sound hT hkt hkey (hkf (fun _=>False) w) false
     have hobj:(getObj b).run G.P w = .ok (.map c es.length) w:=MapKept.run_getObj_map hh
     have hcl:c.size=es.length:=by have:=hen.1; simpa using this
     have hshp:∀ es',shp (Blk.mp es')=shp (Blk.mp es):=fun _=>rfl
     have hkF:∀ {c':Array MapEntry} {k':Nat} {z:FV} {u:Value},RepF Fz w z u->RepF Fz (w.putObj b (.map c' k')) z u:=fun {c' k' z u} hz=>by
      have hs:=setMap_stays h (s:=s) (by simp [hb]) hm hh (c':=c') (k':=k')
      exact hz.mono (fun _ x=>x) fun b0 hb0=>hs.fixed b0 (h.zy _ hb0)
     have hkV:∀ {c':Array MapEntry} {k':Nat} {z:V} {u:Value},RepV μ (shs σ) Fz Fy w z u->RepV μ (shs σ) Fz Fy (w.putObj b (.map c' k')) z u:=fun {c' k' z u} hz=>by
      have hs:=setMap_stays h (s:=s) (by simp [hb]) hm hh (c':=c') (k':=k')
      exact hz.mono (fun _ x=>x) (fun _ x=>x) (fun b0 hb0=>hs.fixed b0 (h.zy _ hb0)) hs.fixed hs.keeps (fun _=>False) (fun _ _=>.inr ⟨rfl,rfl⟩) (fun _ x=>x) (fun _ x=>x.elim)
     split at hs
     ·rename_i i y0 hf
      simp only [Option.some.injEq] at hs; subst hs
      rcases findKey_sound hT hkt (hkf (fun _=>False) w) hf hen with ⟨k1,_⟩ | ⟨j,y',e,k1,k2,k3,k4,k5,k6⟩
      ·cases k1
      ·simp only [Option.some.injEq,Prod.mk.injEq] at k1
       obtain ⟨rfl,rfl⟩:=k1
       have hci:c[i]? = some e:=by simpa using k2
       have hset:∀ o:Obj,(setObj b o).run G.P w = .ok () (w.putObj b o):=fun o=>MapKept.run_setObj_map o hh
       refine ⟨_,?_,h.upd' hb (hshp _) (setMap_stays h (by simp [hb]) hm hh (c':=c.modify i fun e=>{ e with key:=uk,val:=ux }) (k':=es.length)) ?_⟩
       ·simp [Instr.mapUpdate,hu,Sem.run_bind,hobj,hck,k6,hci,k4,hst,hset]
       ·refine .mp _ b (c.modify i fun e=>{ e with key:=uk,val:=ux }) hm (by simpa using World.putObj_heap_same (Array.getElem?_eq_some_iff.1 hh).1) (by simp [hcl]) fun j z hj=>?_
        rw [List.getElem?_set] at hj
        split at hj
        ·rename_i e1; subst e1
         split at hj
         ·simp only [Option.some.injEq] at hj; subst hj
          exact ⟨{ e with key:=uk,val:=ux },by simp [Array.getElem?_modify,hci],hborn i e hci,hkf _ _,hkV hx⟩
         ·cases hj
        ·rename_i e1
         obtain ⟨m,q1,q2,q3⟩:=hen.2 j z hj
         refine ⟨m,?_,hborn j m (by simpa using q1),hkF q2,hkV q3⟩
         rw [Array.getElem?_modify,if_neg e1]; simpa using q1
     ·rename_i hf
      simp only [Option.some.injEq] at hs; subst hs
      rcases findKey_sound hT hkt (hkf (fun _=>False) w) hf hen with ⟨_,k2⟩ | ⟨j,y',e,k1,_⟩
      ·have hset:∀ o:Obj,(setObj b o).run G.P w = .ok () (w.putObj b o):=fun o=>MapKept.run_setObj_map o hh
       refine ⟨_,?_,h.upd' hb (hshp _) (setMap_stays h (by simp [hb]) hm hh (c':=c.push { key:=uk,val:=ux,born:=es.length }) (k':=es.length+1)) ?_⟩
       ·simp [Instr.mapUpdate,hu,Sem.run_bind,hobj,hck,k2,hset]
       ·refine .mp _ b (c.push { key:=uk,val:=ux,born:=es.length }) hm (by simpa using World.putObj_heap_same (Array.getElem?_eq_some_iff.1 hh).1) (by simp [hcl]) fun j z hj=>?_
        rw [List.getElem?_append] at hj
        split at hj
        ·rename_i hlt
         obtain ⟨m,q1,q2,q3⟩:=hen.2 j z hj
         refine ⟨m,?_,hborn j m (by simpa using q1),hkF q2,hkV q3⟩
         rw [Array.getElem?_push,if_neg (by omega)]; simpa using q1
        ·rename_i hge
         have hj0:j=es.length:=by
          have:=(List.getElem?_eq_some_iff.1 hj).1
          simp at this; omega
         subst hj0
         simp only [Nat.sub_self,List.getElem?_cons_zero,Option.some.injEq] at hj; subst hj
         exact ⟨_,by rw [Array.getElem?_push,if_pos hcl.symm],rfl,hkf _ _,hkV hx⟩
      ·cases k1
     ·cases hs
    ·cases hs
   ·cases hs
  ·cases hs
 ·cases hs
theorem repV_frees:∀ {ns:List Nat} {σ:St} {x:V} {v:Value},RepV μ (shs σ) Fz Fy w x v->RepV μ (shs (frees σ ns)) Fz Fy w x v
 | [],_,_,_,h=>h
 | s :: ns,σ,_,_,h=>repV_frees (ns:=ns) (h.drop s)
theorem updMap_sound (hT:TOk G) (h:Sim C σ a w μ Fz Fy) {t:Nat} {p kv x:V} {σ':St} (hs:updMap G σ t p kv x=some σ') {v uk ux:Value} (hv:RepV μ (shs σ) Fz Fy w p v) (hk:RepV μ (shs σ) Fz Fy w kv uk) (hx:RepV μ (shs σ) Fz Fy w x ux) :
  ∃ w' Fz' Fy',(Instr.mapUpdate t v uk ux).run G.P w = .ok () w'/\Sim C σ' a w' μ Fz' Fy':=by
 unfold updMap at hs
 split at hs
 ·rename_i kx ns y he1 he2
  obtain ⟨_,hkr⟩:=elemA_sound h he1 hk
  obtain ⟨hnl,hyr⟩:=elemA_sound h he2 hx
  have hfz:=h.freezes hnl
  obtain ⟨w',k1,k2⟩:=updV_sound hT hfz hs ((repV_frees (ns:=ns) hv).mono (fun _ x=>.inl x) (fun _ x=>.inl x) (fun _ _=>rfl) (fun _ _=>rfl) (Keeps.refl w) (fun _=>False) (fun _ _=>.inr ⟨rfl,rfl⟩) (fun _ x=>x) (fun _ x=>x.elim)) hkr (.fv _ _ _ hyr)
  exact ⟨w',_,_,k1,k2⟩
 ·cases hs
end
def renV (s k:Nat):Nat->V->V
 | 0,_=>.top
 | n+1,v=>match v with
  | .own t o l=>.own (if t=s then k else t) o l
  | .ptr t o=>.ptr (if t=s then k else t) o
  | .pel t i j=>.pel (if t=s then k else t) i j
  | .map t=>.map (if t=s then k else t)
  | .agg cs=>.agg (cs.map (renV s k n))
  | .tup cs=>.tup (cs.map (renV s k n))
  | .fn f a b=>.fn f (a.map (renV s k n)) (b.map (renV s k n))
  | .fv ro x=>.fv ro x
  | .top=>.top
  | .yv=>.yv
def bmapB (f:V->V):Blk->Blk
 | .arr sz xs=>.arr sz xs
 | .box cells=>.box (cells.map f)
 | .lst sz n cells=>.lst sz n (cells.map f)
 | .mp es=>.mp (es.map fun e=>(e.1,f e.2))
 | .mit mv since last seen=>.mit (f mv) since last seen
theorem repB_map {μ sh μ' sh':Mu} {Fz Fy:Nat->Prop} {w:World} {s s':Nat} {f:V->V} {b:Blk} (hR:∀ y∈bcells b,∀ v,RepV μ sh Fz Fy w y v->RepV μ' sh' Fz Fy w (f y) v) (hμ:μ' s'=μ s) (h:RepB μ sh Fz Fy w s b):RepB μ' sh' Fz Fy w s' (bmapB f b):=by
 cases h with
 | nil=>exact .nil _
 | arr _ _ r base c e hm hh hc hsz hr=>exact .arr _ _ r base c e (hμ.trans hm) hh hc hsz hr
 | box cells r c e hm hh hc hr =>
  refine .box _ r c e (hμ.trans hm) hh (by simpa using hc) fun j y hj=>?_
  simp only [List.getElem?_map,Option.map_eq_some_iff] at hj
  obtain ⟨y',hy',rfl⟩:=hj
  exact hR y' (List.mem_of_getElem? hy') _ (hr j y' hy')
 | lst sz n cells r base c e hm hh hl hc hr =>
  refine .lst sz n _ r base c e (hμ.trans hm) hh (by simpa using hl) hc fun j y hj=>?_
  simp only [List.getElem?_map,Option.map_eq_some_iff] at hj
  obtain ⟨y',hy',rfl⟩:=hj
  exact hR y' (List.mem_of_getElem? hy') _ (hr j y' hy')
 | mp es r c hm hh hc hr =>
  refine .mp _ r c (hμ.trans hm) (by simpa using hh) (by simpa using hc) fun j y hj=>?_
  simp only [List.getElem?_map,Option.map_eq_some_iff] at hj
  obtain ⟨y',hy',rfl⟩:=hj
  obtain ⟨m,h1,h0,h2,h3⟩:=hr j y' hy'
  exact ⟨m,h1,h0,h2,hR y'.2 (List.mem_map.2 ⟨y',List.mem_of_getElem? hy',rfl⟩) _ h3⟩
 | mit mv since last seen r x hm hh hr=>exact .mit _ since last seen r x (hμ.trans hm) hh (hR mv (by simp [bcells]) _ hr)
def renB (s k:Nat):Blk->Blk:=bmapB (renV s k 5)
theorem shp_bmapB (f:V->V) (b:Blk):shp (bmapB f b)=shp b:=by cases b<;>simp [bmapB,shp]
theorem shp_renB (s k:Nat) (b:Blk):shp (renB s k b)=shp b:=shp_bmapB _ b
def St.ren (σ : St) (s k : Nat) : St :=
  { env := ((σ.drop k).kill [k]).env.map fun e => (e.1,renV s k 5 e.2),
    blk := match lk s ((σ.drop k).kill [k]).blk with
      | some b => put k (renB s k b) (rm s (((σ.drop k).kill [k]).blk.map fun e => (e.1,renB s k e.2)))
      | none => [],tr := ((σ.drop k).kill [k]).tr }
section
variable {C:Base} {σ:St} {a:Act} {w w':World} {μ:Mu} {Fz Fy:Nat->Prop} {G:Pg}
theorem renV_sound {sh sh':Mu} {s k:Nat} (hkY:k≠YN) (hsk:s≠k) (h1:sh' k=sh s) (h2:∀ t,t≠k->t≠s->sh' t=sh t):∀ (n:Nat) {x:V} {v:Value},RepV μ sh Fz Fy w x v->(∃ m,ment m k x=false)->RepV (setMu μ k (μ s)) sh' Fz Fy w (renV s k n x) v
 | 0,_,_,_,_=>.top _
 | n+1,x,v,hv,hk=>by
  have hmu:∀ t,t≠k->setMu μ k (μ s) t=μ t:=fun t ht=>by simp [setMu,ht]
  have hmk:setMu μ k (μ s) k=μ s:=by simp [setMu]
  obtain ⟨m,hm⟩:=hk
  cases m with
  | zero=>simp [ment] at hm
  | succ m =>
  cases hv with
  | yv l hl=>exact .yv l (by simp only [setMu,if_neg (Ne.symm hkY)]; exact hl)
  | top=>exact .top _
  | fv _ _ _ h=>exact .fv _ _ _ h
  | ownx t o l _ h =>
   simp only [ment,beq_eq_false_iff_ne,ne_eq] at hm
   simp only [renV]
   split
   ·rename_i e; subst e; exact .ownx _ _ _ _ (h1.trans h)
   ·rename_i e; exact .ownx _ _ _ _ ((h2 t hm e).trans h)
  | own t o l ad cap sz nn hs hn hc hmm =>
   simp only [ment,beq_eq_false_iff_ne,ne_eq] at hm
   simp only [renV]
   split
   ·rename_i e; subst e
    exact .own _ _ _ ad cap sz nn (h1.trans hs) hn hc (hmm.imp id fun ⟨b,base,e1,e2,e3⟩=>⟨b,base,hmk.trans e1,e2,e3⟩)
   ·rename_i e
    exact .own _ _ _ ad cap sz nn ((h2 t hm e).trans hs) hn hc (hmm.imp id fun ⟨b,base,e1,e2,e3⟩=>⟨b,base,(hmu t hm).trans e1,e2,e3⟩)
  | ptrx t o _ h =>
   simp only [ment,beq_eq_false_iff_ne,ne_eq] at hm
   simp only [renV]
   split
   ·rename_i e; subst e; exact .ptrx _ _ _ (h1.trans h)
   ·rename_i e; exact .ptrx _ _ _ ((h2 t hm e).trans h)
  | ptr t o b base h =>
   simp only [ment,beq_eq_false_iff_ne,ne_eq] at hm
   simp only [renV]
   split
   ·rename_i e; subst e; exact .ptr _ _ b base (hmk.trans h)
   ·exact .ptr _ _ b base ((hmu t hm).trans h)
  | pelx t i j _ h =>
   simp only [ment,beq_eq_false_iff_ne,ne_eq] at hm
   simp only [renV]
   split
   ·rename_i e; subst e; exact .pelx _ _ _ _ (h1.trans h)
   ·rename_i e; exact .pelx _ _ _ _ ((h2 t hm e).trans h)
  | pel t i j sz nn b base hs hi h =>
   simp only [ment,beq_eq_false_iff_ne,ne_eq] at hm
   simp only [renV]
   split
   ·rename_i e; subst e; exact .pel _ _ _ sz nn b base (h1.trans hs) hi (hmk.trans h)
   ·rename_i e; exact .pel _ _ _ sz nn b base ((h2 t hm e).trans hs) hi ((hmu t hm).trans h)
  | mapx t _ h =>
   simp only [ment,beq_eq_false_iff_ne,ne_eq] at hm
   simp only [renV]
   split
   ·rename_i e; subst e; exact .mapx _ _ (h1.trans h)
   ·rename_i e; exact .mapx _ _ ((h2 t hm e).trans h)
  | map t b base h =>
   simp only [ment,beq_eq_false_iff_ne,ne_eq] at hm
   simp only [renV]
   split
   ·rename_i e; subst e; exact .map _ b base (hmk.trans h)
   ·exact .map _ b base ((hmu t hm).trans h)
  | agg cs vs hs hr =>
   simp only [ment,List.any_eq_false] at hm
   refine .agg _ vs (by simp [hs]) fun j y hj=>?_
   simp only [List.getElem?_map,Option.map_eq_some_iff] at hj
   obtain ⟨y',hy',rfl⟩:=hj
   exact renV_sound hkY hsk h1 h2 n (hr j y' hy') ⟨m,by simpa using hm y' (List.mem_of_getElem? hy')⟩
  | tup cs vs hs hr =>
   simp only [ment,List.any_eq_false] at hm
   refine .tup _ vs (by simp [hs]) fun j y hj=>?_
   simp only [List.getElem?_map,Option.map_eq_some_iff] at hj
   obtain ⟨y',hy',rfl⟩:=hj
   exact renV_sound hkY hsk h1 h2 n (hr j y' hy') ⟨m,by simpa using hm y' (List.mem_of_getElem? hy')⟩
  | fn f as bs vf vc hs hs' hr hr' =>
   simp only [ment,Bool.or_eq_false_iff,List.any_eq_false] at hm
   refine .fn f _ _ vf vc (by simp [hs]) (by simp [hs']) (fun j y hj=>?_) (fun j y hj=>?_)
   ·simp only [List.getElem?_map,Option.map_eq_some_iff] at hj
    obtain ⟨y',hy',rfl⟩:=hj
    exact renV_sound hkY hsk h1 h2 n (hr j y' hy') ⟨m,by simpa using hm.1 y' (List.mem_of_getElem? hy')⟩
   ·simp only [List.getElem?_map,Option.map_eq_some_iff] at hj
    obtain ⟨y',hy',rfl⟩:=hj
    exact renV_sound hkY hsk h1 h2 n (hr' j y' hy') ⟨m,by simpa using hm.2 y' (List.mem_of_getElem? hy')⟩
theorem Sim.ren (h:Sim C σ a w μ Fz Fy) {s k:Nat} (hkY:k≠YN) (hsk:s≠k) (hs:pres σ s=true):Sim C (σ.ren s k) a w (setMu μ k (μ s)) Fz Fy:=by
 have h':=(h.drop k).kill [k]
 have hfree:=St.free_kill (σ.drop k) [k] (s:=k) (by simp)
 have hkn:lk k ((σ.drop k).kill [k]).blk=none:=by simp [St.kill,St.drop,lk_map,lk_rm]
 have hsp:lk s ((σ.drop k).kill [k]).blk≠none:=by
  simp only [pres,Option.isSome_iff_exists] at hs
  obtain ⟨b,hb⟩:=hs
  simp [St.kill,St.drop,lk_map,lk_rm,hsk,hb]
 unfold St.ren
 generalize hτ:(σ.drop k).kill [k]=τ at h' hfree hkn hsp
 cases hb:lk s τ.blk with
 | none=>exact absurd hb hsp
 | some B =>
 simp only
 have hlk:∀ t,lk t (put k (renB s k B) (rm s (τ.blk.map fun e=>(e.1,renB s k e.2))))=if t=k then some (renB s k B) else if t=s then none else (lk t τ.blk).map (renB s k):=fun t=>by
  rw [lk_put]
  split
  ·rfl
  ·rw [lk_rm]
   split
   ·rfl
   ·rw [lk_map]
 have hsh1:shs { env:=τ.env.map fun e=>(e.1,renV s k 5 e.2),blk:=put k (renB s k B) (rm s (τ.blk.map fun e=>(e.1,renB s k e.2))) } k=shs τ s:=by
  simp [shs,hlk,hb,shp_renB]
 have hsh2:∀ t,t≠k->t≠s->shs { env:=τ.env.map fun e=>(e.1,renV s k 5 e.2),blk:=put k (renB s k B) (rm s (τ.blk.map fun e=>(e.1,renB s k e.2))) } t=shs τ t:=fun t h1 h2=>by
  simp only [shs,hlk,h1,h2,if_false,Option.map_map]
  cases lk t τ.blk with
  | none=>rfl
  | some x=>simp [shp_renB]
 have hwho:∀ t,lk t (put k (renB s k B) (rm s (τ.blk.map fun e=>(e.1,renB s k e.2))))≠none->∃ t',lk t' τ.blk≠none/\setMu μ k (μ s) t=μ t'/\(t=k/\t'=s\/t≠k/\t≠s/\t'=t):=fun t ht=>by
  rw [hlk] at ht
  by_cases h1:t=k
  ·exact ⟨s,by simp [hb],by simp [setMu,h1],.inl ⟨h1,rfl⟩⟩
  ·simp only [h1,if_false] at ht
   by_cases h2:t=s
   ·simp [h2] at ht
   ·simp only [h2,if_false] at ht
    exact ⟨t,fun e=>by simp [e] at ht,by simp [setMu,h1],.inr ⟨h1,h2,rfl⟩⟩
 have hrepB:∀ t t' b,lk t' τ.blk=some b->setMu μ k (μ s) t=μ t'->RepB (setMu μ k (μ s)) (shs { env:=τ.env.map fun e=>(e.1,renV s k 5 e.2),blk:=put k (renB s k B) (rm s (τ.blk.map fun e=>(e.1,renB s k e.2))) }) Fz Fy w t (renB s k b):=fun t t' b ht hμ=>by
  exact repB_map (fun y hy v hv=>renV_sound hkY hsk hsh1 hsh2 5 hv (hfree.2 t' b ht y hy)) hμ (h'.blk t' b ht)
 refine { defers:=h'.defers,size:=h'.size,env:=fun t v ht=>?_,blk:=fun t b ht=>?_,live:=fun t ht r base hr=>?_,inj:=fun t u ht hu htu r base r' base' hr hr'=>?_,zy:=h'.zy,yl:=h'.yl,z0:=h'.z0,below:=h'.below,big:=h'.big,dist:=h'.dist,small:=h'.small,y0:=h'.y0,lp:=h'.lp,mm:=h'.mm,gl:=h'.gl,yd:=fun y hy=>⟨by simp only [setMu,if_neg (Ne.symm hkY)]; exact (h'.yd y hy).1,(h'.yd y hy).2⟩,fm:=fun r hr=>⟨(h'.fm r hr).1,(h'.fm r hr).2.1,fun t ht base hb=>let ⟨t',e1,e2,_⟩:=hwho t ht; (h'.fm r hr).2.2 t' e1 base (e2▸hb)⟩ }
 ·simp only [lk_map,Option.map_eq_some_iff] at ht
  obtain ⟨v',hv',rfl⟩:=ht
  exact ⟨(h'.env t v' hv').1,renV_sound hkY hsk hsh1 hsh2 5 (h'.env t v' hv').2 (hfree.1 t v' hv')⟩
 ·simp only [hlk] at ht
  by_cases h1:t=k
  ·subst h1
   simp only [if_true,Option.some.injEq] at ht
   subst ht
   exact hrepB t s B hb (by simp [setMu])
  ·simp only [h1,if_false] at ht
   by_cases h2:t=s
   ·simp [h2] at ht
   ·simp only [h2,if_false,Option.map_eq_some_iff] at ht
    obtain ⟨b',hb',rfl⟩:=ht
    exact hrepB t t b' hb' (by simp [setMu,h1])
 ·obtain ⟨t',h1,h2,_⟩:=hwho t ht
  exact h'.live t' h1 r base (h2▸hr)
 ·obtain ⟨t',h1,h2,h3⟩:=hwho t ht
  obtain ⟨u',k1,k2,k3⟩:=hwho u hu
  refine h'.inj t' u' h1 k1 ?_ r base r' base' (h2▸hr) (k2▸hr')
  rcases h3 with ⟨rfl,rfl⟩ | ⟨a1,a2,rfl⟩<;>rcases k3 with ⟨rfl,rfl⟩ | ⟨b1,b2,rfl⟩
  ·exact absurd rfl htu
  ·exact fun e=>b2 e.symm
  ·exact a2
  ·exact htu
def asgA (G:Pg) (keep:List Nat) (σ:St) (d ty:Nat) (v:V):Option St :=
 match v with
 | .own s off len =>
  if (s==d||keep.contains s)=true then some { σ with env:=put d v σ.env }
  else if pres σ s=true then some { σ.ren s d with env:=put d (.own d off len) (σ.ren s d).env } else none
 | .fv ro (.sl true sz [])=>match lk ty G.tbl with
  | some ⟨_,_,_,.slice e⟩=>match lk e G.tbl with
   | some ti=>some (σ.mk' d (.arr ti.size []) (.own d 0 0))
   | none=>none
  | _=>some { σ with env:=put d v σ.env }
 | _=>some { σ with env:=put d v σ.env }
theorem asgA_sound (h:Sim C σ a w μ Fz Fy) {keep:List Nat} {d ty:Nat} (hd:d < C.N) {x:V} {σ':St} (hs:asgA G keep σ d ty x=some σ') {v:Value} (hv:RepV μ (shs σ) Fz Fy w x v) :
  ∃ μ',Sim C σ' (a.put (some d) v) w μ' Fz Fy:=by
 unfold asgA at hs
 split at hs
 ·rename_i s off len
  split at hs
  ·simp only [Option.some.injEq] at hs; subst hs
   exact ⟨μ,h.set d hd _ _ hv⟩
  ·rename_i hns
   split at hs
   ·rename_i hp
    simp only [Option.some.injEq] at hs; subst hs
    simp only [Bool.or_eq_true,beq_iff_eq,not_or] at hns
    have hr:=h.ren (ne_YN h.small hd) hns.1 hp
    refine ⟨_,hr.set d hd _ _ ?_⟩
    have hsh1:shs (σ.ren s d) d=shs σ s:=by
     simp only [pres,Option.isSome_iff_exists] at hp
     obtain ⟨b,hb⟩:=hp
     have hb':lk s ((σ.drop d).kill [d]).blk=some (killB [d] b):=by simp [St.kill,St.drop,lk_map,lk_rm,hns.1,hb]
     simp only [shs,St.ren,hb',lk_put_same,hb,Option.map_some,shp_renB,shp_killB]
    cases hv with
    | ownx _ _ _ _ hx=>exact (pres_sh hp hx).elim
    | own _ _ _ ad cap sz n hsh hn hc hm =>
     exact .own d off len ad cap sz n (hsh1.trans hsh) hn hc (hm.imp id fun ⟨b,base,e1,e2,e3⟩=>⟨b,base,by simpa [setMu] using e1,e2,e3⟩)
   ·simp at hs
 ·rename_i ro sz
  split at hs
  ·split at hs
   ·rename_i ti hti
    simp only [Option.some.injEq] at hs; subst hs
    cases hv with
    | fv _ _ _ hv =>
    cases hv with
    | sl0 _ _ ad cap hcl =>
     refine ⟨_,h.made hd (Stays.of_below h (Below.refl _ w)) none _ _ _ (by simp) (.nil _) (.own d 0 0 ad cap ti.size 0 ?_ (by simp) (by omega) (.inl (hcl rfl)))⟩
     rw [shs_mk]; simp [shp]
    | sl _ _ _ b o len cap us hlen hcap hclip =>
     simp only [List.length_nil] at hlen
     subst hlen
     refine ⟨_,h.made hd (Stays.of_below h (Below.refl _ w)) none _ _ _ (by simp) (.nil _) (.own d 0 0 _ cap ti.size 0 ?_ (by simp) (by omega) (.inl (hclip rfl)))⟩
     rw [shs_mk]; simp [shp]
   ·simp at hs
  ·simp only [Option.some.injEq] at hs; subst hs
   exact ⟨μ,h.set d hd _ _ hv⟩
 ·simp only [Option.some.injEq] at hs; subst hs
  exact ⟨μ,h.set d hd _ _ hv⟩
def freshN:List (Nat×Blk)->Nat
 | []=>5000000
 | (s,_) :: r=>if s < 5000000 then freshN r else max (s+1) (freshN r)
theorem fresh_ge:∀ (l:List (Nat×Blk)),5000000<=freshN l
 | []=>Nat.le_refl _
 | (s,_) :: r=>by
  simp only [freshN]
  split
  ·exact fresh_ge r
  ·have:=fresh_ge r; omega
theorem fresh_lk:∀ (l:List (Nat×Blk)) {s:Nat},lk s l≠none->s < freshN l
 | [],s,h=>by simp [lk] at h
 | (t,_) :: r,s,h=>by
  simp only [lk] at h
  simp only [freshN]
  have hg:=fresh_ge r
  split at h
  ·rename_i e; subst e
   split<;>omega
  ·have:=fresh_lk r h
   split<;>omega
def updMapD (G:Pg) (σ:St) (t:Nat) (p k x:V):Option St :=
 match elemA σ k,x,p with
 | some ([],kx),.ptr s 0,.map m=>if pres σ s=true/\pres σ m=true/\m≠s then updV G (σ.ren s (freshN σ.blk)) t (.map m) kx (.ptr (freshN σ.blk) 0) else none
 | _,_,_=>none
theorem updMapD_sound (hT:TOk G) (h:Sim C σ a w μ Fz Fy) {t:Nat} {p kv x:V} {σ':St} (hs:updMapD G σ t p kv x=some σ') {v uk ux:Value} (hv:RepV μ (shs σ) Fz Fy w p v) (hk:RepV μ (shs σ) Fz Fy w kv uk) (hx:RepV μ (shs σ) Fz Fy w x ux) :
  ∃ w' μ' Fz' Fy',(Instr.mapUpdate t v uk ux).run G.P w = .ok () w'/\Sim C σ' a w' μ' Fz' Fy':=by
 unfold updMapD at hs
 split at hs
 ·rename_i kx s m he1
  split at hs
  ·rename_i hp
   obtain ⟨hp,hpm,hms⟩:=hp
   obtain ⟨_,hkr⟩:=elemA_sound h he1 hk
   have hs0:lk s σ.blk≠none:=by simpa [pres,Option.isSome_iff_ne_none] using hp
   have hm0:lk m σ.blk≠none:=by simpa [pres,Option.isSome_iff_ne_none] using hpm
   have hlt:=fresh_lk σ.blk hs0
   have hlm:=fresh_lk σ.blk hm0
   have hge:=fresh_ge σ.blk
   generalize freshN σ.blk=f at hs hlt hge hlm
   have hfY:f≠YN:=by unfold YN; omega
   have hne:s≠f:=by omega
   have hr:=h.ren hfY hne hp
   obtain ⟨b,hb⟩:∃ b,lk s σ.blk=some b:=by
    cases hc:lk s σ.blk with
    | none=>exact absurd hc hs0
    | some b=>exact ⟨b,rfl⟩
   have hb':lk s ((σ.drop f).kill [f]).blk=some (killB [f] b):=by simp [St.kill,St.drop,lk_map,lk_rm,hne,hb]
   have hsh1:shs (σ.ren s f) f=shs σ s:=by
    simp only [shs,St.ren,hb',lk_put_same,hb,Option.map_some,shp_renB,shp_killB]
   have hsh2:∀ t,t≠f->t≠s->shs (σ.ren s f) t=shs σ t:=fun t h1 h2=>by
    have e1:lk t (σ.ren s f).blk=(lk t ((σ.drop f).kill [f]).blk).map (renB s f):=by simp only [St.ren,hb',lk_put,lk_rm,lk_map,h1,h2,if_false]
    have e2:lk t ((σ.drop f).kill [f]).blk=(lk t σ.blk).map (killB [f]):=by simp [St.kill,St.drop,lk_map,lk_rm,h1]
    simp only [shs,e1,e2]
    cases lk t σ.blk with
    | none=>rfl
    | some x=>simp [shp_renB,shp_killB]
   have hconv:∀ {y:V} {u:Value},RepV μ (shs σ) Fz Fy w y u->(∃ m,ment m f y=false)->RepV (setMu μ f (μ s)) (shs (σ.ren s f)) Fz Fy w (renV s f 5 y) u:=fun hy hm=>renV_sound hfY hne hsh1 hsh2 5 hy hm
   obtain ⟨w',k1,k2⟩:=updV_sound hT hr hs (by
    have:=hconv hv ⟨1,by simp [ment]; omega⟩
    simpa [renV,hms] using this) hkr (by
    have:=hconv hx ⟨1,by simp [ment]; omega⟩
    simpa [renV] using this)
   exact ⟨w',_,_,_,k1,k2⟩
  ·cases hs
 ·cases hs
def bytesF (s:ByteArray):List FV:=s.data.toList.map fun b=>.int .u8 b.toNat
def cvtA (G:Pg) (σ:St) (d src dst:Nat) (s:ByteArray):Option St :=
 match lk src G.tbl,lk dst G.tbl with
 | some _,some ⟨_,_,_,.slice e⟩=>match lk e G.tbl with
  | some ⟨_,_,_,.int .u8⟩=>some { σ with env:=put d (.fv false (.sl false 1 (bytesF s))) σ.env }
  | _=>none
 | _,_=>none
theorem Sim.fixNew (h:Sim C σ a w μ Fz Fy) {b:Nat} (hb:C.B<=b) (hlt:b < w.heap.size) (hl:∀ s,lk s σ.blk≠none->∀ base,μ s≠some (b,base)) (hm:¬ C.M b):Sim C σ a w μ (fun r=>Fz r\/r=b) (fun r=>Fy r\/r=b) :=
 h.fix (fun _ x=>.inl x) (fun _ x=>.inl x) (fun r hr=>hr.imp (h.zy r) id) (fun r hr=>hr.elim (h.yl r) fun e=>e▸hlt) (fun r hr=>hr.elim (h.z0 r) fun e=>.inr (.inl (e▸hb))) (fun r hr=>hr.elim (h.y0 r) fun e=>.inr (.inl (e▸hb)))
  (fun s hs r base hr hf=>hf.elim (h.live s hs r base hr).2.2 fun e=>hl s hs base (e▸hr)) (fun r hr hf=>hf.elim (h.fm r hr).2.1 fun e=>hm (e▸hr))
theorem cvtA_sound (hT:TOk G) (h:Sim C σ a w μ Fz Fy) {d:Nat} (hd:d < C.N) {src dst:Nat} {s:ByteArray} {σ':St} (hs:cvtA G σ d src dst s=some σ') :
  ∃ u w' Fz' Fy',(convert src dst (.string s)).run G.P w = .ok u w'/\Sim C σ' (a.put (some d) u) w' μ Fz' Fy':=by
 unfold cvtA at hs
 split at hs
 ·rename_i s1 s2 s3 s4 e hsrc hdst
  split at hs
  ·rename_i t1 t2 t3 he
   simp only [Option.some.injEq] at hs; subst hs
   obtain ⟨du,hdu,_⟩:=(hT.tt _ _ hsrc).under
   obtain ⟨dd,hdd,hk⟩:=(hT.tt _ _ hdst).under
   simp only [KindIs] at hk; subst hk
   obtain ⟨de,hde,hk⟩:=(hT.tt _ _ he).under
   simp only [KindIs] at hk; subst hk
   have hrun:=Lib.run_convert_string_bytes (P:=G.P) w src dst e s hdu hdd hde
   have hbel:Below w.heap.size w (Lib.bytesWorld w e s):=⟨rfl,rfl,rfl,by rw [Lib.bytesWorld_size]; omega,fun k hk=>Lib.bytesWorld_at_old w e s k hk,Nat.le_succ _⟩
   have h1:=h.stays (Stays.of_below h hbel)
   have h2:=h1.fixNew (b:=w.heap.size) h.big (by rw [Lib.bytesWorld_size]; omega) (fun t ht base hm=>by have:=(h.live t ht _ base hm).2.1; omega) (fun hm=>by have:=(h.fm _ hm).1; omega)
   refine ⟨_,_,_,_,hrun,h2.set d hd _ _ (.fv _ _ _ ?_)⟩
   have hlen:(bytesF s).length=s.size:=by simp [bytesF]
   have hcap:s.size<=grownCap w s.size 0 e:=grownCap_ge _ _ _ _
   refine .sl false 1 (bytesF s) w.heap.size 0 s.size _ (fun i _=>.int .u8 (s.data.toList.getD i 0).toNat) hlen hcap (by simp) (.inr rfl) (fun i x hx=>?_) (fun i x j y hx hj=>?_) (fun i x j y hx hj=>?_)
   ·simp only [bytesF,List.getElem?_map,Option.map_eq_some_iff] at hx
    obtain ⟨b,_,rfl⟩:=hx
    rfl
   ·have hi:i < s.size:=by rw [<-hlen]; exact (List.getElem?_eq_some_iff.1 hx).1
    simp only [bytesF,List.getElem?_map,Option.map_eq_some_iff] at hx
    obtain ⟨b,hb,rfl⟩:=hx
    have hj0:j=0:=by have:=(List.getElem?_eq_some_iff.1 hj).1; simp [cellsOf] at this; exact this
    subst hj0
    rw [show 0+(i*1+0)=i from by omega]
    exact Lib.bytesWorld_cell w e s i hi
   ·simp only [bytesF,List.getElem?_map,Option.map_eq_some_iff] at hx
    obtain ⟨b,hb,rfl⟩:=hx
    have hj0:j=0:=by have:=(List.getElem?_eq_some_iff.1 hj).1; simp [cellsOf] at this; exact this
    subst hj0
    simp only [cellsOf,List.getElem?_cons_zero,Option.some.injEq] at hj; subst hj
    rw [List.getD_eq_getElem?_getD,hb]
    exact .int _ _
  ·cases hs
 ·cases hs
def arrA (G:Pg) (σ:St) (d t:Nat) (p:V):Option St :=
 match lk t G.tbl with
 | some ⟨_,_,_,.array n e⟩=>match lk e G.tbl with
  | some ti=>match elemA σ p with
   | some (ns,.pt xs 0)=>if ti.size=1/\xs.length=n/\xs.all nagg=true then some { frees σ ns with env:=put d (.fv false (.sl true 1 xs)) (frees σ ns).env } else none
   | _=>none
  | none=>none
 | _=>none
theorem nagg_one {x:FV} (h:nagg x=true):cellsOf x=[x]/\cellsOK 1 x=true:=by
 cases x<;>first | exact ⟨rfl,rfl⟩ | simp [nagg] at h
theorem arrA_sound (hT:TOk G) (h:Sim C σ a w μ Fz Fy) {d:Nat} (hd:d < C.N) {t:Nat} {p:V} {σ':St} (hs:arrA G σ d t p=some σ') {v:Value} (hv:RepV μ (shs σ) Fz Fy w p v) :
  ∃ u Fz' Fy',(Instr.sliceAt t v none none none).run G.P w = .ok u w/\Sim C σ' (a.put (some d) u) w μ Fz' Fy':=by
 unfold arrA at hs
 split at hs
 ·rename_i s1 s2 s3 n e heq
  split at hs
  ·rename_i ti hti
   split at hs
   ·rename_i ns xs hel
    split at hs
    ·rename_i hc
     obtain ⟨h1,h2,h3⟩:=hc
     simp only [Option.some.injEq] at hs; subst hs
     obtain ⟨hnl,hr⟩:=elemA_sound h hel hv
     have hfz:=h.freezes hnl
     obtain ⟨dd,hdd,hk⟩:=(hT.tt _ _ heq).under
     simp only [KindIs] at hk; subst hk
     rw [List.all_eq_true] at h3
     cases hr with
     | pt _ _ b o us hb hc hrr =>
     refine ⟨.slice (some ⟨b,o,none⟩) n n,_,_,?_,hfz.set d hd _ _ (.fv _ _ _ ?_)⟩
     ·have e0:(⟨b,o,none⟩:Addr).add 0=⟨b,o,none⟩:=by rw [add_zero' _ rfl]; simp
      simp [Instr.sliceAt,underlying,hdd,Instr.slice,Instr.sliceBounds,run_sizeOf' hT hti,Instr.sureAddr,e0]
     ·by_cases h0:xs=[]
      ·subst h0
       simp only [List.length_nil] at h2; subst h2
       exact .sl0 _ _ _ _ (fun _=>rfl)
      ·have h1x:∀ (i:Nat) (x:FV),xs[i]? = some x->cellsOf x=[x]/\cellsOK 1 x=true:=fun i x hx=>nagg_one (h3 x (List.mem_of_getElem? hx))
       refine .sl true 1 xs b o n n (fun i _=>us i) h2 (Nat.le_refl _) (fun _=>rfl) hb (fun i x hx=>(h1x i x hx).2) (fun i x j y hx hj=>?_) (fun i x j y hx hj=>?_)
       ·rw [(h1x i x hx).1] at hj
        have hj0:j=0:=by have:=(List.getElem?_eq_some_iff.1 hj).1; simpa using this
        subst hj0
        have:=hc i x hx
        simpa using this
       ·rw [(h1x i x hx).1] at hj
        have hj0:j=0:=by have:=(List.getElem?_eq_some_iff.1 hj).1; simpa using this
        subst hj0
        simp only [List.getElem?_cons_zero,Option.some.injEq] at hj; subst hj
        exact hrr i x hx
    ·cases hs
   ·cases hs
  ·cases hs
 ·cases hs
def rangeA (G:Pg) (σ:St) (d t:Nat) (p:V):Option St :=
 match lk t G.tbl with
 | some ⟨_,_,_,.map _ _⟩=>match p with
  | .map s=>match lk s σ.blk with
   | some (.mp es)=>some (σ.mk' d (.mit (killV [d] p) es.length es.length []) (.ptr d 0))
   | _=>none
  | _=>none
 | _=>none
theorem rangeA_sound (hT:TOk G) (h:Sim C σ a w μ Fz Fy) {d:Nat} (hd:d < C.N) {t:Nat} {p:V} {σ':St} (hs:rangeA G σ d t p=some σ') {v:Value} (hv:RepV μ (shs σ) Fz Fy w p v) :
  ∃ u w' μ',(Instr.range t v).run G.P w = .ok u w'/\Sim C σ' (a.put (some d) u) w' μ' Fz Fy:=by
 unfold rangeA at hs
 split at hs
 ·rename_i s1 s2 s3 kt et heq
  split at hs
  ·rename_i s
   split at hs
   ·rename_i es hb
    simp only [Option.some.injEq] at hs; subst hs
    obtain ⟨dd,hdd,hk⟩:=(hT.tt _ _ heq).under
    simp only [KindIs] at hk; subst hk
    obtain ⟨b,c,hm,hh,hen,hborn⟩:=ents_of (h.blk s _ hb)
    obtain ⟨b',base,hm',rfl⟩:=map_val (by simp [hb]) hv
    rw [hm] at hm'
    simp only [Option.some.injEq,Prod.mk.injEq] at hm'
    obtain ⟨rfl,_⟩:=hm'
    refine ⟨_,_,_,run_range_map w t kt et b c es.length hdd hh,h.made hd (stays_alloc h _) (some (w.heap.size,0)) _ _ _ (new_free h _) ?_ ?_⟩
    ·refine .mit _ _ _ [] w.heap.size (some b) (by simp [setMu]) (heap_new _ _) ?_
     exact RepV.later h hd (stays_alloc h _) (ment_killV [d] _ (by simp)) (hv.killed [d])
    ·exact .ptr d 0 w.heap.size 0 (by simp [setMu])
   ·cases hs
  ·cases hs
 ·cases hs
def entA (σ:St) (p:V):Option V :=
 match p with
 | .ptr s 0=>match lk s σ.blk with
  | some (.mit (.map m) since last seen)=>match lk m σ.blk,seen.getLast? with
   | some (.mp es),some i=>if last=es.length then match es[i]? with
     | some (k,v)=>some (.tup [.fv false k,v])
     | none=>none
    else none
   | _,_=>none
  | _=>none
 | _=>none
theorem entA_sound (h:Sim C σ a w μ Fz Fy) {p r:V} (hs:entA σ p=some r) {v:Value} (hv:RepV μ (shs σ) Fz Fy w p v):∃ u,(Instr.entry v).run G.P w = .ok u w/\RepV μ (shs σ) Fz Fy w r u:=by
 unfold entA at hs
 split at hs
 ·rename_i s
  split at hs
  ·rename_i m since last seen hb
   split at hs
   ·rename_i es i hbm hi
    split at hs
    ·rename_i hl
     subst hl
     split at hs
     ·rename_i k y hk
      simp only [Option.some.injEq] at hs; subst hs
      have hB:=h.blk s _ hb
      cases hB with
      | mit _ _ _ _ r x hm hh hr =>
      obtain ⟨bm,c,hmm,hhm,hen,hborn⟩:=ents_of (h.blk m _ hbm)
      obtain ⟨b',base,hm',hx⟩:=map_val (by simp [hbm]) hr
      rw [hmm] at hm'
      simp only [Option.some.injEq,Prod.mk.injEq] at hm'
      obtain ⟨rfl,_⟩:=hm'
      simp only [Value.map.injEq] at hx; subst hx
      cases hv with
      | ptrx _ _ _ hx=>simp [shs,hb] at hx
      | ptr _ _ r' base' hm2 =>
      rw [hm] at hm2
      simp only [Option.some.injEq,Prod.mk.injEq] at hm2
      obtain ⟨rfl,rfl⟩:=hm2
      obtain ⟨e,he,hek,hev⟩:=hen.2 i _ hk
      have he':c[i]? = some e:=by simpa using he
      have heb:=hborn i e he'
      have hobj:(getObj r).run G.P w = .ok (.mapIter (some bm) since seen.toArray es.length) w:=by simp [getObj,Sem.run,hh]
      have hobm:(getObj bm).run G.P w = .ok (.map c es.length) w:=MapKept.run_getObj_map hhm
      have hfind:c.find? (fun x=>x.born==i)=some e:=by
       rw [<-Array.find?_toList]
       rw [<-heb]
       refine find_born e c.toList ?_ (List.mem_of_getElem? he)
       have hcl:c.toList.length=es.length:=hen.1
       have:c.toList.map (·.born)=List.range es.length:=by
        apply List.ext_getElem?
        intro q
        rw [List.getElem?_map]
        by_cases hq:q < es.length
        ·have hq':q < c.toList.length:=by omega
         rw [List.getElem?_eq_getElem hq',List.getElem?_range hq]
         simp only [Option.map_some,Option.some.injEq]
         exact hborn q _ (by rw [<-Array.getElem?_toList,List.getElem?_eq_getElem hq'])
        ·rw [List.getElem?_eq_none (by omega),List.getElem?_eq_none (by simp; omega)]; rfl
       rw [this]; exact List.nodup_range
      refine ⟨.tuple #[e.key,e.val],?_,?_⟩
      ·have hback:seen.toArray.back? = some i:=by simpa using hi
       simp [Instr.entry,hobj,hobm,hback,hfind]
      ·refine .tup _ _ rfl fun j yy hj=>?_
       match j,hj with
       | 0,hj=>cases hj; exact .fv _ _ _ hek
       | 1,hj=>cases hj; exact hev
     ·cases hs
    ·cases hs
   ·cases hs
  ·cases hs
 ·cases hs
def hdX (G:Pg) (σ:St) (d:Nat) (f:V) (args:List V):Option (Option St) :=
 match fnOf f with
 | some (k,first,captured)=>if G.hd k=true then some (match G.rd k σ.blk (first++args++captured) with
   | some x=>some { σ with env:=put d (.fv false x) σ.env }
   | none=>match G.wr k σ.blk (first++args++captured) with
    | some (s,b,x)=>some { σ with env:=put d (.fv false x) σ.env,blk:=put s b σ.blk }
    | none=>none) else none
 | none=>none
def callX (G:Pg) (σ:St) (d:Nat) (f:V) (args:List V):Option St :=
 match hdX G σ d f args with
 | some r=>r
 | none=>match callA G σ d f args with
 | some σ'=>some σ'
 | none=>match callB G σ d f args with
  | some σ'=>some σ'
  | none=>srtA G σ d f args
theorem inl0_sound {C:Base} {σ:St} {a:Act} {w:World} {μ:Mu} {Fz Fy:Nat->Prop} {G:Pg} (h:Sim C σ a w μ Fz Fy) {d:Nat} (hd:d < C.N) {f:V} {args:List V} {k:FuncId} {first captured:List V} (hfn:fnOf f=some (k,first,captured)) {σ1:St} {x:FV} (hen:Enters G.P k) (hval:InlOK0 G.P k σ (first++args++captured) σ1 [.fv false x])
  {o:Oper} {fo:Operand} {ao:Array Operand} {ats:Array TypeId}
  (ho:o.op = .call ⟨.value fo,ao,ats⟩) (hdst:o.dst=some d) (hf:RepV μ (shs σ) Fz Fy w f (a.eval fo)) (ha:Cells μ (shs σ) Fz Fy w args (ao.map a.eval)) {K:Act->World->Prop} {Q:Exit->Act->World->Prop}
  (hK:∀ a' w' μ' Fz' Fy',Sim C { σ1 with env:=put d (.fv false x) σ1.env } a' w' μ' Fz' Fy'->K a' w'):o.wp G.P a w K Q:=by
 obtain ⟨fn,hfn1,hfn2,hfn3⟩:=hen
 obtain ⟨vf,vc,hve,hcf,hcc⟩:=fnOf_sound hfn hf
 have hall:=cells_app (cells_app hcf ha) hcc
 have hcall:=hval C a w μ Fz Fy (vf++ao.map a.eval++vc).toList h (by rw [Array.length_toList,hall.1]) (fun j y hj=>by
  have:=hall.2 j y hj
  have hjl:j < (vf++ao.map a.eval++vc).size:=by rw [hall.1]; exact (List.getElem?_eq_some_iff.1 hj).1
  refine ⟨(vf++ao.map a.eval++vc)[j],?_,?_⟩
  ·rw [Array.getElem?_toList,Array.getElem?_eq_getElem hjl]
  ·rw [Array.getD_eq_getD_getElem?,Array.getElem?_eq_getElem hjl] at this
   exact this)
 have hrun:(execOp a.eval o).run G.P w = .ok (.enter k (vf++ao.map a.eval++vc)) w:=by
  unfold execOp
  simp only [ho,resolve,Deferred.ofValue,hve,Sem.run_bind,Sem.run_pure,Result.andThen_ok,invoke,callFunc,run_program,hfn1]
  simp [hfn2,hfn3]
 unfold Oper.wp
 rw [hrun,Oper.upon_enter]
 simp only [Array.toArray_toList] at hcall
 refine hcall.mono ?_
 rintro e w' ⟨rs,μ',Fz',Fy',rfl,hS,hl,hr⟩
 simp only
 rw [hdst]
 match rs,hl,hr with
 | [u],_,hr =>
  obtain ⟨u',hu',hru⟩:=hr 0 _ rfl
  simp only [List.getElem?_cons_zero,Option.some.injEq] at hu'
  subst hu'
  exact hK _ _ _ _ _ (hS.set d hd _ _ hru)
theorem hdX_sound {C:Base} {σ:St} {a:Act} {w:World} {μ:Mu} {Fz Fy:Nat->Prop} {G:Pg} (hC:CtxOk G) (h:Sim C σ a w μ Fz Fy) {d:Nat} (hd:d < C.N) {f:V} {args:List V} {σ':St} (hs:hdX G σ d f args=some (some σ'))
  {o:Oper} {fo:Operand} {ao:Array Operand} {ats:Array TypeId}
  (ho:o.op = .call ⟨.value fo,ao,ats⟩) (hdst:o.dst=some d) (hf:RepV μ (shs σ) Fz Fy w f (a.eval fo)) (ha:Cells μ (shs σ) Fz Fy w args (ao.map a.eval)) {K:Act->World->Prop} {Q:Exit->Act->World->Prop}
  (hK:∀ a' w' μ' Fz' Fy',Sim C σ' a' w' μ' Fz' Fy'->K a' w'):o.wp G.P a w K Q:=by
 unfold hdX at hs
 split at hs
 ·rename_i k first captured hfn
  split at hs
  ·simp only [Option.some.injEq] at hs
   split at hs
   ·rename_i x hx
    simp only [Option.some.injEq] at hs
    subst hs
    obtain ⟨hen,hval⟩:=hC.r k _ _ x hx
    exact inl0_sound h hd hfn hen (hval σ fun _ _ x=>x).2 ho hdst hf ha hK
   ·split at hs
    ·rename_i s b x hx
     simp only [Option.some.injEq] at hs
     subst hs
     obtain ⟨hen,hval⟩:=hC.w k _ _ s b x hx
     exact inl0_sound h hd hfn hen (hval σ fun _ _ x=>x).2.2 ho hdst hf ha hK
    ·cases hs
  ·cases hs
 ·cases hs
def stepA (G:Pg) (keep:List Nat) (N:Nat) (σ:St) (o:Oper):Option St :=
 match o.dst with
 | none=>match o.op with
  | .store t p x=>match opd σ p,opd σ x with
   | some p,some x=>stoA G σ t p x
   | _,_=>none
  | .mapUpdate t m k x=>match opd σ m,opd σ k,opd σ x with
   | some m,some k,some x=>if G.deep.contains t=true then updMapD G σ t m k x else updMap G σ t m k x
   | _,_,_=>none
  | op=>(popA G σ op).map fun _=>σ
 | some d=>if d < N then
   match o.op with
   | .assign x=>match opd σ x with
    | some v=>asgA G keep σ d o.type v
    | none=>none
   | .alloc t=>allocA G σ d t
   | .box t x=>match opd σ x with
    | some v=>boxA σ d v
    | none=>none
   | .buildSlice t len ps=>match parts σ ps.toList with
    | some []=>bs0A G σ d t len
    | some ps=>bsX G σ d t len ps
    | none=>none
   | .convert src dst x=>match opd σ x with
    | some (.fv _ (.str s))=>cvtA G σ d src dst s
    | _=>match popA G σ (.convert src dst x) with
     | some v=>some { σ with env:=put d v σ.env }
     | none=>none
   | .slice t x none none none=>match opd σ x with
    | some (.ptr s off)=>arrA G σ d t (.ptr s off)
    | _=>match popA G σ (.slice t x none none none) with
     | some v=>some { σ with env:=put d v σ.env }
     | none=>none
   | .range t x=>match opd σ x with
    | some p=>rangeA G σ d t p
    | none=>none
   | .entry x=>match opd σ x with
    | some p=>match entA σ p with
     | some v=>some { σ with env:=put d v σ.env }
     | none=>none
    | none=>none
   | .makeMap t none=>some (mkMapA σ d)
   | .lookup t x k ok=>match opd σ x,opd σ k with
    | some p,some (.fv _ k)=>match lookMap G σ t p k ok with
     | some v=>some { σ with env:=put d v σ.env }
     | none=>none
    | _,_=>none
   | .makeSlice t l c=>match opd σ l,opd σ c with
    | some l,some c=>match intN l,intN c with
     | some l,some c=>mkA G σ d t l c
     | _,_=>none
    | _,_=>none
   | .call ⟨.builtin .append,args,ats⟩=>match args.toList,ats.toList with
    | [x,y],[t,t']=>if t=t' then match opd σ x,opd σ y with
      | some x,some y=>appA G σ d t x y
      | _,_=>none
     else none
    | _,_=>none
   | .call ⟨.value f,args,_⟩=>match opd σ f,opds σ args.toList with
    | some f,some args=>callX G σ d f args
    | _,_=>none
   | op=>match popA G σ op with
    | some v=>some { σ with env:=put d v σ.env }
    | none=>none
  else none
theorem stepA_sound (hT:TOk G) (hC:CtxOk G) (h:Sim C σ a w μ Fz Fy) {keep:List Nat} {o:Oper} {σ':St} (hs:stepA G keep C.N σ o=some σ') {K:Act->World->Prop} {Q:Exit->Act->World->Prop}
  (hK:∀ a' w' μ' Fz' Fy',Sim C σ' a' w' μ' Fz' Fy'->K a' w'):o.wp G.P a w K Q:=by
 have value:∀ {u:Value} {w':World},(execOp a.eval o).run G.P w = .ok (.value u) w'->K (a.put o.dst u) w'->o.wp G.P a w K Q:=fun hr hk=>by
  unfold Oper.wp; rw [hr]; exact hk
 unfold stepA at hs
 split at hs
 ·rename_i hdst
  split at hs
  ·rename_i t p x hop
   split at hs
   ·rename_i pv xv hp hx
    obtain ⟨w',Fz',Fy',hr,hS⟩:=stoA_sound hT h hs (opd_sound h hp) (opd_sound h hx)
    have hrun:(execOp a.eval o).run G.P w = .ok .skip w':=by
     unfold execOp
     simp only [hop,Sem.run_bind,hr,Result.andThen_ok,Sem.run_pure]
    unfold Oper.wp
    rw [hrun,Oper.upon_skip,hdst]
    exact hK _ _ _ _ _ hS
   ·simp at hs
  ·rename_i t m k x hop
   split at hs
   ·rename_i mv kv xv hm hk hx
    obtain ⟨w',μ',Fz',Fy',hr,hS⟩:∃ w' μ' Fz' Fy',(Instr.mapUpdate t (a.eval m) (a.eval k) (a.eval x)).run G.P w = .ok () w'/\Sim C σ' a w' μ' Fz' Fy':=by
     split at hs
     ·exact updMapD_sound hT h hs (opd_sound h hm) (opd_sound h hk) (opd_sound h hx)
     ·obtain ⟨w',Fz',Fy',hr,hS⟩:=updMap_sound hT h hs (opd_sound h hm) (opd_sound h hk) (opd_sound h hx)
      exact ⟨w',μ,Fz',Fy',hr,hS⟩
    have hrun:(execOp a.eval o).run G.P w = .ok .skip w':=by
     unfold execOp
     simp only [hop,Sem.run_bind,hr,Result.andThen_ok,Sem.run_pure]
    unfold Oper.wp
    rw [hrun,Oper.upon_skip,hdst]
    exact hK _ _ _ _ _ hS
   ·simp at hs
  ·simp only [Option.map_eq_some_iff] at hs
   obtain ⟨v,hv,rfl⟩:=hs
   obtain ⟨u,hr,_⟩:=pop_sound hT h o hv
   refine value hr ?_
   rw [hdst]
   exact hK _ _ _ _ _ h
 ·rename_i d hdst
  split at hs
  ·rename_i hd
   have fin:∀ {u:Value} {w':World} {μ':Mu} {Fz' Fy':Nat->Prop},(execOp a.eval o).run G.P w = .ok (.value u) w'->Sim C σ' (a.put (some d) u) w' μ' Fz' Fy'->o.wp G.P a w K Q:=fun hr hS=>value hr (by rw [hdst]; exact hK _ _ _ _ _ hS)
   split at hs
   ·rename_i x hop
    split at hs
    ·rename_i v hv
     obtain ⟨μ',hS⟩:=asgA_sound h hd hs (opd_sound h hv)
     exact fin (by unfold execOp; simp only [hop]; rfl) hS
    ·simp at hs
   ·rename_i t hop
    obtain ⟨u,w',μ',hr,hS⟩:=allocA_sound hT h hd hs (.tuple #[])
    exact fin (by unfold execOp; simp only [hop,Sem.run_bind,hr,Result.andThen_ok,Sem.run_pure]) hS
   ·rename_i t x hop
    split at hs
    ·rename_i v hv
     obtain ⟨u,w',μ',hr,hS⟩:=boxA_sound h hd hs (opd_sound h hv) G.P t
     exact fin (by unfold execOp; simp only [hop,Sem.run_bind,hr,Result.andThen_ok,Sem.run_pure]) hS
    ·simp at hs
   ·rename_i t len ps hop
    split at hs
    ·rename_i hps
     obtain ⟨k1,_⟩:=parts_sound h hps
     have e0:ps=#[]:=Array.eq_empty_of_size_eq_zero (by simpa using k1.symm)
     obtain ⟨u,w',hr,hS⟩:=bs0A_sound hT h hd hs
     exact fin (by unfold execOp; simp only [hop,e0,Array.map_empty,Sem.run_bind,hr,Result.andThen_ok,Sem.run_pure]) hS
    ·rename_i ps' hps
     obtain ⟨k1,k2⟩:=parts_sound h hps
     obtain ⟨u,w',μ',Fz',Fy',hr,hS⟩:=bsX_sound hT h hd hs (ps.map fun (i,x)=>(i,a.eval x)) (by simp [k1]) (fun j x hj=>by
      obtain ⟨y,hy,hr⟩:=k2 j x hj
      have hy':ps[j]? = some (x.1,y):=by simpa using hy
      exact ⟨a.eval y,by simp [hy'],hr⟩)
     exact fin (by unfold execOp; simp only [hop,Sem.run_bind,hr,Result.andThen_ok,Sem.run_pure]) hS
    ·simp at hs
   ·rename_i src dst x hop
    split at hs
    ·rename_i ro s hx
     have hv:=opd_sound h hx
     generalize hu:a.eval x=u0 at hv
     cases hv with
     | fv _ _ _ hv =>
     cases hv
     obtain ⟨u,w',Fz',Fy',hr,hS⟩:=cvtA_sound hT h hd hs
     exact fin (by unfold execOp; simp only [hop,hu,Sem.run_bind,hr,Result.andThen_ok,Sem.run_pure]) hS
    ·split at hs
     ·rename_i v hv
      simp only [Option.some.injEq] at hs; subst hs
      obtain ⟨u,hr,hrep⟩:=pop_sound hT h o (hop▸hv)
      exact fin hr (h.set d hd _ _ hrep)
     ·simp at hs
   ·rename_i t x hop
    split at hs
    ·rename_i s off hx
     obtain ⟨u,Fz',Fy',hr,hS⟩:=arrA_sound hT h hd hs (opd_sound h hx)
     exact fin (by unfold execOp; simp only [hop,Option.map_none,Sem.run_bind,hr,Result.andThen_ok,Sem.run_pure]) hS
    ·split at hs
     ·rename_i v hv
      simp only [Option.some.injEq] at hs; subst hs
      obtain ⟨u,hr,hrep⟩:=pop_sound hT h o (hop▸hv)
      exact fin hr (h.set d hd _ _ hrep)
     ·simp at hs
   ·rename_i t x hop
    split at hs
    ·rename_i p hx
     obtain ⟨u,w',μ',hr,hS⟩:=rangeA_sound hT h hd hs (opd_sound h hx)
     exact fin (by unfold execOp; simp only [hop,Sem.run_bind,hr,Result.andThen_ok,Sem.run_pure]) hS
    ·simp at hs
   ·rename_i x hop
    split at hs
    ·rename_i p hx
     split at hs
     ·rename_i v hv
      simp only [Option.some.injEq] at hs; subst hs
      obtain ⟨u,hr,hrep⟩:=entA_sound (G:=G) h hv (opd_sound h hx)
      exact fin (by unfold execOp; simp only [hop,Sem.run_bind,hr,Result.andThen_ok,Sem.run_pure]) (h.set d hd _ _ hrep)
     ·simp at hs
    ·simp at hs
   ·rename_i t hop
    simp only [Option.some.injEq] at hs; subst hs
    obtain ⟨u,w',μ',hr,hS⟩:=mkMapA_sound h hd G.P t
    exact fin (by unfold execOp; simp only [hop,Option.map_none,Sem.run_bind,hr,Result.andThen_ok,Sem.run_pure]) hS
   ·rename_i t x k ok hop
    split at hs
    ·rename_i p ro kf hp hk
     split at hs
     ·rename_i v hv
      simp only [Option.some.injEq] at hs; subst hs
      have hkv:=opd_sound h hk
      generalize hku:a.eval k=ku at hkv
      cases hkv with
      | fv _ _ _ hkv =>
      obtain ⟨y,hr,hrep⟩:=lookMap_sound hT h hv (opd_sound h hp) hkv (ok:=ok)
      exact fin (by unfold execOp; simp only [hop,hku,Sem.run_bind,hr,Result.andThen_ok,Sem.run_pure]) (h.set d hd _ _ hrep)
     ·simp at hs
    ·simp at hs
   ·rename_i t l c hop
    split at hs
    ·rename_i lv cv hl hc
     split at hs
     ·rename_i ln cn hln hcn
      obtain ⟨k1,e1⟩:=intN_sound hln (opd_sound h hl)
      obtain ⟨k2,e2⟩:=intN_sound hcn (opd_sound h hc)
      obtain ⟨u,w',μ',hr,hS⟩:=mkA_sound hT h hd hs k1 k2
      exact fin (by unfold execOp; simp only [hop,Sem.run_bind,e1,e2,hr,Result.andThen_ok,Sem.run_pure]) hS
     ·simp at hs
    ·simp at hs
   ·rename_i args ats hop
    split at hs
    ·rename_i x y t t' hargs hats
     split at hs
     ·rename_i htt
      subst htt
      split at hs
      ·rename_i xw yw hx hy
       have e1:args=#[x,y]:=Array.toList_inj.1 hargs
       have e2:ats=#[t,t]:=Array.toList_inj.1 hats
       subst e1; subst e2
       obtain ⟨u,w',μ',hr,hS⟩:=appA_sound hT h hd hs (opd_sound h hx) (opd_sound h hy) o.type
       exact fin (by unfold execOp; simp [hop,resolve,invoke,builtin,hr]) hS
      ·simp at hs
     ·simp at hs
    ·simp at hs
   ·rename_i f args ats hop
    split at hs
    ·rename_i fv avs hf ha
     unfold callX at hs
     split at hs
     ·rename_i r hr
      subst hs
      exact hdX_sound hC h hd hr hop hdst (opd_sound h hf) (opds_cells h ha) hK
     split at hs
     ·rename_i τ hτ
      exact callA_sound hT hC h hd (hτ.trans hs) hop hdst (opd_sound h hf) (opds_cells h ha) hK
     ·split at hs
      ·rename_i τ hτ
       exact callB_sound hT hC h hd (hτ.trans hs) hop hdst (opd_sound h hf) (opds_cells h ha) hK
      ·exact srtA_sound hT hC h hd hs hop hdst (opd_sound h hf) (opds_cells h ha) hK
    ·simp at hs
   ·split at hs
    ·rename_i v hv
     simp only [Option.some.injEq] at hs; subst hs
     obtain ⟨u,hr,hrep⟩:=pop_sound hT h o hv
     exact fin hr (h.set d hd _ _ hrep)
    ·simp at hs
  ·simp at hs
end
def FR (r:Option Nat):Fence:={ Fence.wide with round:=r }
theorem room_FR (r:Option Nat) (n:Nat):(FR r).room n:=fun d h=>by simp [FR,Fence.wide] at h
theorem callsIn_FR {r : Option Nat} {n : Nat} {P : Program} {f : FuncId} {args : Array Value} {w : World} {R : Ending → World → Prop} : CallsIn (FR r) n P f args w R ↔ Calls P f args w R :=
  ⟨fun h cs => let ⟨e,w',fr,r,s,x⟩ := h.2 cs (room_FR _ _); ⟨e,w',fr,r,comesIn_wide.1 s,x⟩,
   fun h => ⟨trivial,fun cs _ => let ⟨e,w',fr,r,s,x⟩ := h cs; ⟨e,w',fr,r,comesIn_wide.2 s,x⟩⟩⟩
theorem rowsIn_FR {r:Option Nat} {n:Nat} {P:Program} {row:String} {args:Array Value} {w:World} {R:Value->World->Prop} (h:Rows P row args w R):RowsIn (FR r) n P row args w R :=
 fun c cs _=>let ⟨v,w',r,s⟩:=h c cs; ⟨v,w',r,stepsIn_wide.2 s⟩
theorem oper_in {r:Option Nat} {n:Nat} {P:Program} {o:Oper} {a:Act} {w:World} {K:Act->World->Prop} {Q:Exit->Act->World->Prop} (hnd:∀ c,o.op≠.defer c) (h:o.wp P a w K Q):o.wpIn (FR r) n P a w K Q:=by
 refine ⟨fun _ _=>trivial,?_⟩
 rw [show (FR r).round=r from rfl,Oper.semAt_eq r a.eval o hnd]
 unfold Oper.wp at h
 generalize (execOp a.eval o).run P w=x at h ⊢
 match x,h with
 | .ok (.value v) w',h=>exact h
 | .ok .skip w',h=>exact h
 | .ok (.defer d) w',h=>exact h
 | .ok (.enter f args) w',h=>exact ⟨fun hd=>by simp [FR,Fence.wide] at hd,callsIn_FR.2 h⟩
 | .ok (.row row args) w',h=>exact ⟨fun hd=>by simp [FR,Fence.wide] at hd,rowsIn_FR h⟩
 | .ok (.round ..) w',h=>exact h.elim
 | .halt (.panic v) w',h=>exact h
section
variable {F:Fence} {n:Nat} {P:Program} {b:Frame} {a:Act} {k:List Item} {cs:List Frame} {w:World} {Q:Exit->Act->World->Prop}
theorem stepR_scope {c:Code}:step P (lone (b.atR a (.code (.scope c) :: k)) cs w) = .next (lone (b.atR a (.code c :: .inScope c :: k)) cs w) :=
 step_lone_go (by simp [stepG,stepG.exec,Frame.atR])
theorem stepR_inScope {c:Code}:step P (lone (b.atR a (.inScope c :: k)) cs w) = .next (lone (b.atR a k) cs w) :=
 step_lone_go (by simp [stepG,stepG.exec,Frame.atR])
theorem wpIn_scope_straight {c:Code} (h:c.wpIn F n P (Exit.noGoto Q) a w):(Code.scope c).wpIn F n P Q a w:=by
 intro b k cs hro hb hr
 have h0:(lone (b.atR a (.code (.scope c) :: k)) cs w).fenced P F:=fenced_calm hb hr rfl
 obtain ⟨e,a₁,w₁,hq,harr⟩:=h b (.inScope c :: k) cs hro hb hr
 cases e with
 | normal=>exact ⟨.normal,a₁,w₁,hq,.head h0 stepR_scope (StepsIn.trans harr (.one (fenced_calm hb hr rfl) stepR_inScope))⟩
 | exit id =>
  have hx:exitTo id (.inScope c :: k)=exitTo id k:=by simp [exitTo]
  exact ⟨.exit id,a₁,w₁,hq,fun k' hk=>.head h0 stepR_scope (harr.1 k' (by rw [hx]; exact hk)),
   fun hr' hk=>let ⟨k₁,h1,h2⟩:=harr.2 hr' (by rw [hx]; exact hk); ⟨k₁,h1,.head h0 stepR_scope h2⟩⟩
 | goto l=>exact hq.elim
 | ret=>exact ⟨_,a₁,w₁,hq,.of_steps (.one h0 stepR_scope) harr⟩
 | panic ch=>exact ⟨_,a₁,w₁,hq,.of_steps (.one h0 stepR_scope) harr⟩
 | outgrown=>exact ⟨_,a₁,w₁,hq,.of_steps (.one h0 stepR_scope) harr⟩
end
theorem roundIn_FR {P:Program} {r r':Option Nat} {n m:Nat} {l:Nat} {f:FuncId} {tmps:Array Value} {assign body:Code} {w:World} {R:Ending->World->Prop} (h:RoundIn (FR r) n P l f tmps assign body w R):RoundIn (FR r') m P l f tmps assign body w R :=
 ⟨trivial,fun c cs _=>h.2 c cs (room_FR _ _)⟩
structure YOk (G:Pg) (C:Base):Prop where
 y:∀ xs st,G.yl=some (xs,st)->∃ zs y,xs=some zs/\C.yl=some y/\∀ (n:Nat) (x:List FV) (M:Nat->Prop) (w:World) (us:List Value),y.J n M w->zs[n]? = some x->us.length=x.length ->
  (∀ (j:Nat) (z:FV),x[j]? = some z->∃ u,us[j]? = some u/\RepF (fun _=>False) w z u) ->
  ∃ fn tmps assign body,(Instr.yield y.l us.toArray).run G.P w = .ok (.round y.l fn tmps assign body) w/\RoundIn (FR none) 0 G.P y.l fn tmps assign body w (fun e w'=>e = .returned (.bool (ans st n))/\∃ M',y.J (n+1) M' w'/\Turn M M' w w')
theorem YOk.withM {G:Pg} {C:Base} (h:YOk G C) (M:Nat->Prop):YOk G (C.withM M):=⟨h.y⟩
theorem yok_none {G:Pg} {C:Base} (h:G.yl=none):YOk G C:=⟨fun xs st e=>by rw [h] at e; cases e⟩
def feq:FV->FV->Bool
 | .int k a,.int j b=>k==j&&a==b
 | .bool a,.bool b=>a==b
 | .str a,.str b=>a.data.toList==b.data.toList
 | .nilfn,.nilfn=>true
 | .nilpt,.nilpt=>true
 | .nilif,.nilif=>true
 | .nilmp,.nilmp=>true
 | .agg _,.agg _=>false
 | _,_=>false
def feqs:List FV->List FV->Bool
 | [],[]=>true
 | .agg a :: r,.agg b :: s=>feqs' a b&&feqs r s
 | a :: r,b :: s=>feq a b&&feqs r s
 | _,_=>false
where feqs':List FV->List FV->Bool
 | [],[]=>true
 | a :: r,b :: s=>feq a b&&feqs' r s
 | _,_=>false
theorem feq_eq {a b:FV} (h:feq a b=true):a=b/\flat1 a=true:=by
 unfold feq at h
 split at h
 ·simp only [Bool.and_eq_true,beq_iff_eq] at h; obtain ⟨rfl,rfl⟩:=h; exact ⟨rfl,rfl⟩
 ·simp only [beq_iff_eq] at h; subst h; exact ⟨rfl,rfl⟩
 ·rename_i a b
  simp only [beq_iff_eq] at h
  obtain ⟨⟨a⟩⟩:=a
  obtain ⟨⟨b⟩⟩:=b
  simp only at h; subst h; exact ⟨rfl,rfl⟩
 all_goals first | exact ⟨rfl,rfl⟩ | (simp at h)
theorem feqs'_eq:∀ {a b:List FV},feqs.feqs' a b=true->a=b/\∀ x∈a,flat1 x=true
 | [],[],_=>⟨rfl,by simp⟩
 | a :: r,b :: s,h=>by
  simp only [feqs.feqs',Bool.and_eq_true] at h
  obtain ⟨rfl,h1⟩:=feq_eq h.1
  obtain ⟨rfl,h2⟩:=feqs'_eq h.2
  exact ⟨rfl,by simpa using ⟨h1,h2⟩⟩
 | [],_ :: _,h=>by simp [feqs.feqs'] at h
 | _ :: _,[],h=>by simp [feqs.feqs'] at h
theorem flat_of_flat1 {a:FV} (h:flat1 a=true):flat a=true:=by cases a<;>first | exact h | simp [flat1] at h
theorem feqs_eq:∀ {a b:List FV},feqs a b=true->a=b/\∀ x∈a,flat x=true
 | [],[],_=>⟨rfl,by simp⟩
 | a :: r,b :: s,h=>by
  unfold feqs at h
  split at h
  ·rename_i h0; cases h0
  ·rename_i x r' y s' e1 e2
   cases e1; cases e2
   simp only [Bool.and_eq_true] at h
   obtain ⟨rfl,h1⟩:=feqs'_eq h.1
   obtain ⟨rfl,h2⟩:=feqs_eq h.2
   refine ⟨rfl,fun z hz=>?_⟩
   rcases List.mem_cons.1 hz with rfl | hz
   ·simpa [flat] using h1
   ·exact h2 z hz
  ·rename_i e1 e2
   cases e1; cases e2
   simp only [Bool.and_eq_true] at h
   obtain ⟨rfl,h1⟩:=feq_eq h.1
   obtain ⟨rfl,h2⟩:=feqs_eq h.2
   refine ⟨rfl,fun z hz=>?_⟩
   rcases List.mem_cons.1 hz with rfl | hz
   ·exact flat_of_flat1 h1
   ·exact h2 z hz
  ·simp at h
 | [],_ :: _,h=>by simp [feqs] at h
 | _ :: _,[],h=>by simp [feqs] at h
def yldA (G:Pg) (N:Nat) (σ:St) (o:Oper):Option St :=
 match o.dst,o.op,G.yl with
 | some d,.call ⟨.value f,args,_⟩,some (xs,st) =>
  if d < N then
   match opd σ f,opds σ args.toList with
   | some .yv,some avs=>match argsA σ avs with
    | some ys=>match xs with
     | some zs=>match zs[σ.tr.length]? with
      | some z=>if feqs z (ys.map (·.2))=true then some { σ with env:=put d (.fv false (.bool (ans st σ.tr.length))) σ.env,tr:=σ.tr++[z] } else none
      | none=>none
     | none=>some { σ with env:=put d (.fv false (.bool (ans st σ.tr.length))) σ.env,tr:=σ.tr++[ys.map (·.2)] }
    | none=>none
   | _,_=>none
  else none
 | _,_,_=>none
def callI (G:Pg) (σ:St) (d:Nat) (f:V) (args:List V):Option St :=
 match fnOf f with
 | some (k,first,captured)=>match G.inl k d σ (first++args++captured) with
  | some (σ',vs)=>some { σ' with env:=put d (packV vs) σ'.env }
  | none=>none
 | none=>none
def inlA (G:Pg) (N:Nat) (σ:St) (o:Oper):Option St :=
 match o.dst,o.op with
 | some d,.call ⟨.value f,args,_⟩=>if d < N then
   match opd σ f,opds σ args.toList with
   | some f,some args=>callI G σ d f args
   | _,_=>none
  else none
 | _,_=>none
def ownF (σ:St):List V->Option (List Nat×List V)
 | []=>some ([],[])
 | v :: r=>match ownF σ r with
  | some (ms,ys)=>match v with
   | .own s off len=>match elemA σ (.own s off len) with
    | some (ns,y)=>some (ns++ms,.fv false y :: ys)
    | none=>none
   | .agg cells=>match elemA σ (.agg cells) with
    | some (ns,y)=>some (ns++ms,.fv false y :: ys)
    | none=>some (ms,.agg cells :: ys)
   | v=>some (ms,v :: ys)
  | none=>none
def callF (G:Pg) (σ:St) (d:Nat) (k:FuncId) (args:List V):Option St :=
 match ownF σ args with
 | some (ns,ws)=>match argsA (frees σ ns) ws with
  | some xs=>match G.ctx k xs with
   | some res=>some { (addRes d (res.length==1) 0 res (frees σ ns)).1 with env:=put d (packV (addRes d (res.length==1) 0 res (frees σ ns)).2) (addRes d (res.length==1) 0 res (frees σ ns)).1.env }
   | none=>none
  | none=>none
 | none=>none
def frzA (G:Pg) (N:Nat) (σ:St) (o:Oper):Option St :=
 match o.dst,o.op with
 | some d,.call ⟨.value f,args,_⟩=>if d < N then
   match opd σ f with
   | some f=>match fnOf f with
    | some (k,first,captured)=>if G.fz k=true then match opds σ args.toList with
      | some args=>callF G σ d k (first++args++captured)
      | none=>none
     else none
    | none=>none
   | none=>none
  else none
 | _,_=>none
def pinA (G:Pg) (o:Oper):Bool :=
 match o.dst with
 | some d=>G.pin.contains d
 | none=>false
def stepX (G:Pg) (keep:List Nat) (N:Nat) (σ:St) (o:Oper):Option St :=
 if pinA G o=true then inlA G N σ o else match frzA G N σ o with
 | some σ'=>some σ'
 | none=>match stepA G keep N σ o with
 | some σ'=>some σ'
 | none=>match yldA G N σ o with
  | some σ'=>some σ'
  | none=>inlA G N σ o
section
variable {C:Base} {σ:St} {a:Act} {w w':World} {μ:Mu} {Fz Fy:Nat->Prop} {G:Pg}
theorem stepA_nodefer {keep:List Nat} {N:Nat} {o:Oper} {σ':St} (hs:stepA G keep N σ o=some σ') (c:Call):o.op≠.defer c:=by
 intro e
 unfold stepA at hs
 rw [e] at hs
 split at hs
 ·simp [popA] at hs
 ·split at hs
  ·simp [popA] at hs
  ·simp at hs
theorem Sim.turn (h : Sim C σ a w μ Fz Fy) {y : Yd} (hy : C.yl = some y) {M' : Nat → Prop} (ht : Turn C.M M' w w') {z : List FV} (hJ : y.J (σ.tr.length + 1) M' w') : Sim (C.withM M') { σ with tr := σ.tr ++ [z] } a w' μ Fz Fy := by
  obtain ⟨y1,y2,y3,y4,y5⟩ := h.yd y hy
  have hfix : ∀ b,Fy b → w'.heap[b]? = w.heap[b]? := fun b hb => ht.block b (h.yl b hb) fun hm => (h.fm b hm).2.1 hb
  have hown : ∀ s,lk s σ.blk ≠ none → ∀ b base,μ s = some (b,base) → w'.heap[b]? = w.heap[b]? := fun s hs b base hm => ht.block b (h.live s hs b base hm).2.1 fun hM => (h.fm b hM).2.2 s hs base hm
  have hbl : BelowX C w' := by
    refine ⟨ht.os.trans h.below.os,ht.tape.trans h.below.tape,ht.output.trans h.below.output,Nat.le_trans h.below.size ht.size,fun k hk hx => ?_,fun k c e fr hx hk hc => ?_,Nat.le_trans h.below.drawn ht.drawn⟩
    · refine (ht.block k (Nat.lt_of_lt_of_le hk h.big) fun hM => ?_).trans (h.below.block k hk hx)
      rcases y5 k hM with h1 | h1
      · omega
      · exact hx h1
    · obtain ⟨c1,h1,h2⟩ := h.below.kept k c e fr hx hk hc
      obtain ⟨c2,h3,h4⟩ := ht.keeps k c1 e fr h1
      exact ⟨c2,h3,h4.trans h2⟩
  have hst : Stays { C with yl := none,M := fun _ => False } σ w w' μ Fy := ⟨ht.keeps,hfix,hown,⟨hbl.os,hbl.tape,hbl.output,hbl.size,hbl.block,hbl.kept,hbl.drawn⟩,ht.size,fun _ x => x.elim,ht.drawn⟩
  have h0 : Sim { C with yl := none,M := fun _ => False } σ a w μ Fz Fy := { h with yd := fun _ e => by simp at e,fm := fun _ x => x.elim,mm := fun _ x => x.elim,below := ⟨h.below.os,h.below.tape,h.below.output,h.below.size,h.below.block,h.below.kept,h.below.drawn⟩ }
  have h1 := h0.stays hst
  have hyd : ∀ y',C.yl = some y' → μ YN = some (y'.l,0) ∧ y'.J (σ.tr ++ [z]).length M' w' ∧ y'.n1 ≤ C.B ∧ (∀ b,b < y'.n1 → C.X b → M' b ∨ y'.H b) ∧ ∀ b,M' b → C.mine b := fun y' e' => by
    rw [hy] at e'
    simp only [Option.some.injEq] at e'; subst e'
    refine ⟨y1,by simpa using hJ,y3,fun b hlt hx => (y4 b hlt hx).imp (ht.sub b) id,fun b hM => ?_⟩
    rcases ht.new b hM with h2 | h2
    · exact y5 b h2
    · exact .inl (Nat.le_trans h.big h2)
  have hfm : ∀ b,M' b → b < w'.heap.size ∧ ¬ Fy b ∧ ∀ s,lk s σ.blk ≠ none → ∀ base,μ s ≠ some (b,base) := fun b hb => by
   refine ⟨ht.lt b hb,fun hy' => ?_,fun s hs base hm => ?_⟩
   · rcases ht.new b hb with h2 | h2
     · exact (h.fm b h2).2.1 hy'
     · exact absurd (h.yl b hy') (by omega)
   · rcases ht.new b hb with h2 | h2
     · exact (h.fm b h2).2.2 s hs base hm
     · exact absurd (h.live s hs b base hm).2.1 (by omega)
  exact { h1 with yd := hyd,fm := hfm,mm := fun b hb => (ht.new b hb).elim (fun h2 => h.mm b h2) (fun h2 => .inl (Nat.le_trans h.big h2)),below := ⟨hbl.os,hbl.tape,hbl.output,hbl.size,hbl.block,hbl.kept,hbl.drawn⟩ }
theorem callI_sound (hC:CtxOk G) (h:Sim C σ a w μ Fz Fy) {d:Nat} (hd:d < C.N) {f:V} {args:List V} {σ':St} (hs:callI G σ d f args=some σ') {o:Oper} {fo:Operand} {ao:Array Operand} {ats:Array TypeId}
  (ho:o.op = .call ⟨.value fo,ao,ats⟩) (hdst:o.dst=some d) (hf:RepV μ (shs σ) Fz Fy w f (a.eval fo)) (ha:Cells μ (shs σ) Fz Fy w args (ao.map a.eval)) {K:Act->World->Prop} {Q:Exit->Act->World->Prop}
  (hK:∀ M' a' w' μ' Fz' Fy',More C M'->Sim (C.withM M') σ' a' w' μ' Fz' Fy'->K a' w'):o.wp G.P a w K Q:=by
 unfold callI at hs
 split at hs
 ·rename_i k first captured hfn
  split at hs
  ·rename_i σ1 vs hin
   simp only [Option.some.injEq] at hs
   obtain ⟨hval,fn,hfn1,hfn2,hfn3⟩:=hC.l k d σ _ σ1 vs hin
   obtain ⟨vf,vc,hve,hcf,hcc⟩:=fnOf_sound hfn hf
   have hall:=cells_app (cells_app hcf ha) hcc
   have hcall:=hval C a w μ Fz Fy (vf++ao.map a.eval++vc).toList h (by rw [Array.length_toList,hall.1]) (fun j y hj=>by
    have:=hall.2 j y hj
    have hjl:j < (vf++ao.map a.eval++vc).size:=by rw [hall.1]; exact (List.getElem?_eq_some_iff.1 hj).1
    refine ⟨(vf++ao.map a.eval++vc)[j],?_,?_⟩
    ·rw [Array.getElem?_toList,Array.getElem?_eq_getElem hjl]
    ·rw [Array.getD_eq_getD_getElem?,Array.getElem?_eq_getElem hjl] at this
     exact this)
   have hrun:(execOp a.eval o).run G.P w = .ok (.enter k (vf++ao.map a.eval++vc)) w:=by
    unfold execOp
    simp only [ho,resolve,Deferred.ofValue,hve,Sem.run_bind,Sem.run_pure,Result.andThen_ok,invoke,callFunc,run_program,hfn1]
    simp [hfn2,hfn3]
   unfold Oper.wp
   rw [hrun,Oper.upon_enter]
   simp only [Array.toArray_toList] at hcall
   refine hcall.mono ?_
   rintro e w' ⟨rs,M',μ',Fz',Fy',rfl,hM,hS,hl,hr⟩
   simp only
   subst hs
   rw [hdst]
   exact hK M' _ _ _ _ _ hM (hS.set d hd _ _ (pack_rep hl hr))
  ·simp at hs
 ·simp at hs
theorem RepV.letgo {x:V} {v:Value}:∀ {ns:List Nat} {σ:St},RepV μ (shs σ) Fz Fy w x v->RepV μ (shs (frees σ ns)) (Of μ Fz ns) (Of μ Fy ns) w x v:=by
 have h0:∀ {ns:List Nat} {σ:St},RepV μ (shs σ) Fz Fy w x v->RepV μ (shs (frees σ ns)) Fz Fy w x v:=by
  intro ns
  induction ns with
  | nil=>exact fun h=>h
  | cons s r ih=>exact fun h=>ih (RepV.drop s h)
 intro ns σ h
 exact (h0 h).mono (fun _ x=>.inl x) (fun _ x=>.inl x) (fun _ _=>rfl) (fun _ _=>rfl) (Keeps.refl w) (fun _=>False) (fun _ _=>.inr ⟨rfl,rfl⟩) (fun _ x=>x) (fun _ x=>x.elim)
theorem ownF_sound (h:Sim C σ a w μ Fz Fy):∀ {vs ws:List V} {ns:List Nat} {us:List Value},ownF σ vs=some (ns,ws)->us.length=vs.length ->
  (∀ (j:Nat) (y:V),vs[j]? = some y->∃ u,us[j]? = some u/\RepV μ (shs σ) Fz Fy w y u) ->
  (∀ s∈ns,lk s σ.blk≠none)/\ws.length=vs.length/\∀ ms,(∀ s∈ns,s∈ms)->∀ (j:Nat) (y:V),ws[j]? = some y->∃ u,us[j]? = some u/\RepV μ (shs (frees σ ms)) (Of μ Fz ms) (Of μ Fy ms) w y u
 | [],ws,ns,us,hx,_,_=>by
  simp only [ownF,Option.some.injEq,Prod.mk.injEq] at hx
  obtain ⟨rfl,rfl⟩:=hx
  exact ⟨by simp,rfl,by simp⟩
 | v :: vs,ws,ns,us,hx,hl,hr=>by
  cases us with
  | nil=>simp at hl
  | cons u us =>
  obtain ⟨u',hu',hru⟩:=hr 0 v rfl
  simp only [List.getElem?_cons_zero,Option.some.injEq] at hu'; subst hu'
  unfold ownF at hx
  split at hx
  ·rename_i ms ys hm
   obtain ⟨b1,b2,b3⟩:=ownF_sound h (us:=us) hm (by simpa using hl) (fun j y hj=>by simpa using hr (j+1) y (by simpa using hj))
   split at hx
   ·split at hx
    ·rename_i ns' y he
     simp only [Option.some.injEq,Prod.mk.injEq] at hx
     obtain ⟨rfl,rfl⟩:=hx
     obtain ⟨a1,a2⟩:=elemA_sound h he hru
     refine ⟨fun s hs=>(List.mem_append.1 hs).elim (a1 s) (b1 s),by simp [b2],fun zs hz j y hj=>?_⟩
     cases j with
     | zero =>
      simp only [List.getElem?_cons_zero,Option.some.injEq] at hj; subst hj
      refine ⟨u,rfl,.fv _ _ _ (a2.wider fun b hb=>?_)⟩
      rcases hb with hb | ⟨s,hs,hm'⟩
      ·exact .inl hb
      ·exact .inr ⟨s,hz s (List.mem_append_left _ hs),hm'⟩
     | succ j=>simpa using b3 zs (fun s hs=>hz s (List.mem_append_right _ hs)) j y (by simpa using hj)
    ·cases hx
   ·split at hx
    ·rename_i ns' y he
     simp only [Option.some.injEq,Prod.mk.injEq] at hx
     obtain ⟨rfl,rfl⟩:=hx
     obtain ⟨a1,a2⟩:=elemA_sound h he hru
     refine ⟨fun s hs=>(List.mem_append.1 hs).elim (a1 s) (b1 s),by simp [b2],fun zs hz j y hj=>?_⟩
     cases j with
     | zero =>
      simp only [List.getElem?_cons_zero,Option.some.injEq] at hj; subst hj
      refine ⟨u,rfl,.fv _ _ _ (a2.wider fun b hb=>?_)⟩
      rcases hb with hb | ⟨s,hs,hm'⟩
      ·exact .inl hb
      ·exact .inr ⟨s,hz s (List.mem_append_left _ hs),hm'⟩
     | succ j=>simpa using b3 zs (fun s hs=>hz s (List.mem_append_right _ hs)) j y (by simpa using hj)
    ·simp only [Option.some.injEq,Prod.mk.injEq] at hx
     obtain ⟨rfl,rfl⟩:=hx
     refine ⟨b1,by simp [b2],fun zs hz j y hj=>?_⟩
     cases j with
     | zero =>
      simp only [List.getElem?_cons_zero,Option.some.injEq] at hj; subst hj
      exact ⟨u,rfl,hru.letgo⟩
     | succ j=>simpa using b3 zs hz j y (by simpa using hj)
   ·simp only [Option.some.injEq,Prod.mk.injEq] at hx
    obtain ⟨rfl,rfl⟩:=hx
    refine ⟨b1,by simp [b2],fun zs hz j y hj=>?_⟩
    cases j with
    | zero =>
     simp only [List.getElem?_cons_zero,Option.some.injEq] at hj; subst hj
     exact ⟨u,rfl,hru.letgo⟩
    | succ j=>simpa using b3 zs hz j y (by simpa using hj)
  ·cases hx
theorem callF_sound (hC:CtxOk G) (h:Sim C σ a w μ Fz Fy) {d:Nat} (hd:d < C.N) {f:V} {k:FuncId} {first captured:List V} (hfn:fnOf f=some (k,first,captured)) {args:List V} {σ':St} (hs:callF G σ d k (first++args++captured)=some σ') {o:Oper} {fo:Operand} {ao:Array Operand} {ats:Array TypeId}
  (ho:o.op = .call ⟨.value fo,ao,ats⟩) (hdst:o.dst=some d) (hf:RepV μ (shs σ) Fz Fy w f (a.eval fo)) (ha:Cells μ (shs σ) Fz Fy w args (ao.map a.eval)) {K:Act->World->Prop} {Q:Exit->Act->World->Prop}
  (hK:∀ a' w' μ' Fz' Fy',Sim C σ' a' w' μ' Fz' Fy'->K a' w'):o.wp G.P a w K Q:=by
 unfold callF at hs
 split at hs
 ·rename_i ns ws hown
  split at hs
  ·rename_i xs hxs
   split at hs
   ·rename_i res hres
    simp only [Option.some.injEq] at hs
    obtain ⟨hval,fn,hfn1,hfn2,hfn3⟩:=hC.c k xs res hres
    obtain ⟨vf,vc,hve,hcf,hcc⟩:=fnOf_sound hfn hf
    have hall:=cells_app (cells_app hcf ha) hcc
    obtain ⟨o1,o2,o3⟩:=ownF_sound h (us:=(vf++ao.map a.eval++vc).toList) hown (by rw [Array.length_toList,hall.1]) (fun j y hj=>by
     have:=hall.2 j y hj
     have hjl:j < (vf++ao.map a.eval++vc).size:=by rw [hall.1]; exact (List.getElem?_eq_some_iff.1 hj).1
     refine ⟨(vf++ao.map a.eval++vc)[j],?_,?_⟩
     ·rw [Array.getElem?_toList,Array.getElem?_eq_getElem hjl]
     ·rw [Array.getD_eq_getD_getElem?,Array.getElem?_eq_getElem hjl] at this
      exact this)
    have h':=h.freezes o1
    obtain ⟨x1,x2⟩:=argsA_sound h' (us:=(vf++ao.map a.eval++vc).toList) hxs (by rw [Array.length_toList,hall.1,o2]) (o3 ns fun _ x=>x)
    have hall2:∀ b,AllOf (Of μ Fy ns) (frees σ ns) μ b->b < w.heap.size:=by
     rintro b (hb | ⟨s,hp,base,hm⟩)
     ·exact h'.yl b hb
     ·exact (h'.live s hp b base hm).2.1
    have hcall:=hval w (Of μ Fz ns) (AllOf (Of μ Fy ns) (frees σ ns) μ) (vf++ao.map a.eval++vc).toList (fun b hb=>.inl (h'.zy b hb)) hall2 (by rw [Array.length_toList,hall.1,x1,o2]) x2 h'.gl
    have hrun:(execOp a.eval o).run G.P w = .ok (.enter k (vf++ao.map a.eval++vc)) w:=by
     unfold execOp
     simp only [ho,resolve,Deferred.ofValue,hve,Sem.run_bind,Sem.run_pure,Result.andThen_ok,invoke,callFunc,run_program,hfn1]
     simp [hfn2,hfn3]
    unfold Oper.wp
    rw [hrun,Oper.upon_enter]
    simp only [Array.toArray_toList] at hcall
    refine hcall.mono ?_
    rintro e w' ⟨v,us,m,rfl,hbelow,hR⟩
    simp only
    obtain ⟨μ',Fz',Fy',hS⟩:=after_call h' (X:=noX) (fun b hb=>hb.elim) (Stays.of_below h' hbelow) hd hR
    subst hs
    rw [hdst]
    exact hK _ _ _ _ _ hS
   ·simp at hs
  ·simp at hs
 ·simp at hs
theorem stepX_sound (hT:TOk G) (hC:CtxOk G) (hY:YOk G C) (h:Sim C σ a w μ Fz Fy) {keep:List Nat} {o:Oper} {σ':St} (hs:stepX G keep C.N σ o=some σ') {ro:Option Nat} {n:Nat} {K:Act->World->Prop} {Q:Exit->Act->World->Prop}
  (hK:∀ M' a' w' μ' Fz' Fy',More C M'->Sim (C.withM M') σ' a' w' μ' Fz' Fy'->K a' w'):o.wpIn (FR ro) n G.P a w K Q:=by
 unfold stepX at hs
 split at hs
 ·unfold inlA at hs
  split at hs
  ·rename_i d f args ats hdst hop
   split at hs
   ·rename_i hd
    split at hs
    ·rename_i fv avs hf ha
     exact oper_in (fun c e=>by rw [hop] at e; cases e) (callI_sound hC h hd hs hop hdst (opd_sound h hf) (opds_cells h ha) hK)
    ·simp at hs
   ·simp at hs
  ·simp at hs
 split at hs
 ·rename_i τ hτ
  simp only [Option.some.injEq] at hs; subst hs
  unfold frzA at hτ
  split at hτ
  ·rename_i d f args ats hdst hop
   split at hτ
   ·rename_i hd
    split at hτ
    ·rename_i fv hf
     split at hτ
     ·rename_i k first captured hfn
      split at hτ
      ·split at hτ
       ·rename_i avs ha
        exact oper_in (fun c e=>by rw [hop] at e; cases e) (callF_sound hC h hd hfn hτ hop hdst (opd_sound h hf) (opds_cells h ha) fun a' w' μ' Fz' Fy' h'=>hK C.M a' w' μ' Fz' Fy' (More.refl C) h')
       ·simp at hτ
      ·simp at hτ
     ·simp at hτ
    ·simp at hτ
   ·simp at hτ
  ·simp at hτ
 split at hs
 ·rename_i τ hτ
  simp only [Option.some.injEq] at hs; subst hs
  exact oper_in (stepA_nodefer hτ) (stepA_sound hT hC h hτ fun a' w' μ' Fz' Fy' h'=>hK C.M a' w' μ' Fz' Fy' (More.refl C) h')
 ·split at hs
  rotate_left
  ·unfold inlA at hs
   split at hs
   ·rename_i d f args ats hdst hop
    split at hs
    ·rename_i hd
     split at hs
     ·rename_i fv avs hf ha
      exact oper_in (fun c e=>by rw [hop] at e; cases e) (callI_sound hC h hd hs hop hdst (opd_sound h hf) (opds_cells h ha) hK)
     ·simp at hs
    ·simp at hs
   ·simp at hs
  rename_i τ hτ
  simp only [Option.some.injEq] at hs; subst hs
  have hs:=hτ
  unfold yldA at hs
  split at hs
  ·rename_i d f args ats xs st hdst hop hyl
   split at hs
   ·rename_i hd
    split at hs
    ·rename_i avs hf ha
     split at hs
     ·rename_i ys hys
      obtain ⟨zs,y,rfl,hCy,hround⟩:=hY.y xs st hyl
      simp only at hs
      split at hs
      ·rename_i z hz
       split at hs
       ·rename_i hfe
        simp only [Option.some.injEq] at hs; subst hs
        obtain ⟨e1,e2⟩:=feqs_eq hfe
        obtain ⟨y1,y2,y3,y4,y5⟩:=h.yd y hCy
        have hv:=opd_sound h hf
        generalize hfv:a.eval f=vf at hv
        cases hv with
        | yv l hm =>
        rw [y1] at hm
        simp only [Option.some.injEq,Prod.mk.injEq,and_true] at hm
        subst hm
        have hcells:=opds_cells h ha
        obtain ⟨k1,k2⟩:=argsA_sound h (us:=(args.map a.eval).toList) hys (by simpa using hcells.1) (fun j v hj=>by
         have:=hcells.2 j v hj
         have hjl:j < (args.map a.eval).size:=by rw [hcells.1]; exact (List.getElem?_eq_some_iff.1 hj).1
         exact ⟨(args.map a.eval)[j],by rw [Array.getElem?_toList,Array.getElem?_eq_getElem hjl],by rw [Array.getD_eq_getD_getElem?,Array.getElem?_eq_getElem hjl] at this; exact this⟩)
        obtain ⟨fn,tmps,assign,body,hy,hR⟩:=hround σ.tr.length z C.M w (args.map a.eval).toList y2 hz (by rw [e1,List.length_map,k1]; simpa using hcells.1) (fun j x hj=>by
         have hfl:=e2 x (List.mem_of_getElem? hj)
         rw [e1] at hj
         simp only [List.getElem?_map,Option.map_eq_some_iff] at hj
         obtain ⟨p,hp,rfl⟩:=hj
         obtain ⟨u,hu,hr⟩:=k2 j p hp
         exact ⟨u,hu,hr.of_flat hfl⟩)
        have hrun:(execOp a.eval o).run G.P w = .ok (.round y.l fn tmps assign body) w:=by
         unfold execOp
         simp only [hop,resolve,Deferred.ofValue,hfv,Sem.run_bind,Sem.run_pure,Result.andThen_ok,invoke]
         rw [Array.toArray_toList] at hy
         simpa using hy
        refine ⟨fun _ _=>trivial,?_⟩
        rw [show (FR ro).round=ro from rfl,Oper.semAt_eq ro a.eval o (fun c e=>by rw [hop] at e; cases e),hrun,Oper.uponIn_round]
        refine ⟨fun hd=>by simp [FR,Fence.wide] at hd,?_⟩
        refine (roundIn_FR hR).mono ?_
        rintro e w' ⟨rfl,M',hJ,hturn⟩
        simp only
        rw [hdst]
        have h2:=h.turn hCy hturn (z:=z) hJ
        exact hK M' _ _ _ _ _ ⟨hturn.sub,fun b hb=>(hturn.new b hb).imp id fun hb=>Nat.le_trans h.big hb⟩ (h2.set d hd _ _ (.fv _ _ _ (.bool _)))
       ·simp at hs
      ·simp at hs
     ·simp at hs
    ·simp at hs
   ·simp at hs
  ·simp at hs
end
def mapV (f:Nat->Option Nat):Nat->V->V
 | 0,_=>.top
 | n+1,v=>match v with
  | .yv=>.yv
  | .top=>.top
  | .fv ro x=>.fv ro x
  | .own s o l=>match f s with
   | some t=>.own t o l
   | none=>.top
  | .ptr s o=>match f s with
   | some t=>.ptr t o
   | none=>.top
  | .pel s i j=>match f s with
   | some t=>.pel t i j
   | none=>.top
  | .map s=>match f s with
   | some t=>.map t
   | none=>.top
  | .agg cs=>.agg (cs.map (mapV f n))
  | .tup cs=>.tup (cs.map (mapV f n))
  | .fn g a b=>.fn g (a.map (mapV f n)) (b.map (mapV f n))
def mapB (f:Nat->Option Nat):Blk->Blk:=bmapB (mapV f 6)
def mapBlk (f:Nat->Option Nat) (g:Nat->Option Nat):List (Nat×Blk)->List (Nat×Blk)
 | []=>[]
 | (s,b) :: r=>match f s with
  | some t=>(t,mapB g b) :: mapBlk f g r
  | none=>mapBlk f g r
def mapEnv (g:Nat->Option Nat):List (Nat×V)->List (Nat×V)
 | []=>[]
 | (k,v) :: r=>(k,mapV g 6 v) :: mapEnv g r
def onLive (σ:St) (f:Nat->Option Nat) (s:Nat):Option Nat:=if pres σ s=true then f s else none
def St.mapN (σ:St) (f:Nat->Option Nat):St:={ σ with env:=mapEnv (onLive σ f) σ.env,blk:=mapBlk f (onLive σ f) σ.blk }
theorem lk_mapEnv {g:Nat->Option Nat} {k:Nat}:∀ {l:List (Nat×V)},lk k (mapEnv g l)=(lk k l).map (mapV g 6)
 | []=>rfl
 | (j,u) :: r=>by
  simp only [mapEnv,lk]
  split
  ·rfl
  ·exact lk_mapEnv
theorem lk_mapBlk {f g:Nat->Option Nat} (hf:∀ s s' t,f s=some t->f s'=some t->s=s') {s t:Nat} (h:f s=some t):∀ {l:List (Nat×Blk)},lk t (mapBlk f g l)=(lk s l).map (mapB g)
 | []=>rfl
 | (j,b) :: r=>by
  simp only [mapBlk,lk]
  split
  ·rename_i t' ht'
   simp only [lk]
   by_cases e:s=j
   ·subst e
    rw [h] at ht'
    simp only [Option.some.injEq] at ht'
    rw [if_pos ht',if_pos rfl]; rfl
   ·rw [if_neg e,if_neg (fun e':t=t'=>e (hf s j t h (by rw [e']; exact ht')))]
    exact lk_mapBlk hf h
  ·rename_i hn
   have e:s≠j:=fun e=>by subst e; rw [h] at hn; cases hn
   rw [if_neg e]
   exact lk_mapBlk hf h
theorem lk_mapBlk_some {f g:Nat->Option Nat} (hf:∀ s s' t,f s=some t->f s'=some t->s=s') {t:Nat}:∀ {l:List (Nat×Blk)} {b':Blk},lk t (mapBlk f g l)=some b'->∃ s,f s=some t
 | [],_,h=>by simp [mapBlk,lk] at h
 | (j,b) :: r,b',h=>by
  simp only [mapBlk] at h
  split at h
  ·rename_i t' ht'
   simp only [lk] at h
   split at h
   ·rename_i e; subst e; exact ⟨j,ht'⟩
   ·exact lk_mapBlk_some hf h
  ·exact lk_mapBlk_some hf h
section
variable {C:Base} {σ:St} {a:Act} {w:World} {μ:Mu} {Fz Fy:Nat->Prop}
theorem mapV_sound {sh sh':Mu} {μ':Mu} {g:Nat->Option Nat} (hY:∀ l,μ YN=some (l,0)->μ' YN=some (l,0)) (hg:∀ s t,g s=some t->sh' t=sh s/\μ' t=μ s/\sh s≠none):∀ (n:Nat) {x:V} {v:Value},RepV μ sh Fz Fy w x v->RepV μ' sh' Fz Fy w (mapV g n x) v
 | 0,_,_,_=>.top _
 | n+1,x,v,hv=>by
  cases hv with
  | yv l hm=>exact .yv l (hY l hm)
  | top=>exact .top _
  | fv _ _ _ h=>exact .fv _ _ _ h
  | ownx t o l _ h =>
   simp only [mapV]
   split
   ·rename_i t' ht; exact absurd h (hg _ _ ht).2.2
   ·exact .top _
  | own t o l ad cap sz nn hs hn hc hmm =>
   simp only [mapV]
   split
   ·rename_i t' ht
    obtain ⟨e1,e2,_⟩:=hg _ _ ht
    exact .own _ _ _ ad cap sz nn (e1.trans hs) hn hc (hmm.imp id fun ⟨b,base,h1,h2,h3⟩=>⟨b,base,e2.trans h1,h2,h3⟩)
   ·exact .top _
  | ptrx t o _ h =>
   simp only [mapV]
   split
   ·rename_i t' ht; exact absurd h (hg _ _ ht).2.2
   ·exact .top _
  | ptr t o b base h =>
   simp only [mapV]
   split
   ·rename_i t' ht; exact .ptr _ _ b base ((hg _ _ ht).2.1.trans h)
   ·exact .top _
  | pelx t i j _ h =>
   simp only [mapV]
   split
   ·rename_i t' ht; exact absurd h (hg _ _ ht).2.2
   ·exact .top _
  | pel t i j sz nn b base hs hi h =>
   simp only [mapV]
   split
   ·rename_i t' ht
    obtain ⟨e1,e2,_⟩:=hg _ _ ht
    exact .pel _ _ _ sz nn b base (e1.trans hs) hi (e2.trans h)
   ·exact .top _
  | mapx t _ h =>
   simp only [mapV]
   split
   ·rename_i t' ht; exact absurd h (hg _ _ ht).2.2
   ·exact .top _
  | map t b base h =>
   simp only [mapV]
   split
   ·rename_i t' ht; exact .map _ b base ((hg _ _ ht).2.1.trans h)
   ·exact .top _
  | agg cs vs hs hr =>
   refine .agg _ vs (by simp [hs]) fun j y hj=>?_
   simp only [List.getElem?_map,Option.map_eq_some_iff] at hj
   obtain ⟨y',hy',rfl⟩:=hj
   exact mapV_sound hY hg n (hr j y' hy')
  | tup cs vs hs hr =>
   refine .tup _ vs (by simp [hs]) fun j y hj=>?_
   simp only [List.getElem?_map,Option.map_eq_some_iff] at hj
   obtain ⟨y',hy',rfl⟩:=hj
   exact mapV_sound hY hg n (hr j y' hy')
  | fn f as bs vf vc hs hs' hr hr' =>
   refine .fn f _ _ vf vc (by simp [hs]) (by simp [hs']) (fun j y hj=>?_) (fun j y hj=>?_)
   ·simp only [List.getElem?_map,Option.map_eq_some_iff] at hj
    obtain ⟨y',hy',rfl⟩:=hj
    exact mapV_sound hY hg n (hr j y' hy')
   ·simp only [List.getElem?_map,Option.map_eq_some_iff] at hj
    obtain ⟨y',hy',rfl⟩:=hj
    exact mapV_sound hY hg n (hr' j y' hy')
theorem shp_mapB (g:Nat->Option Nat) (b:Blk):shp (mapB g b)=shp b:=shp_bmapB _ b
theorem Sim.mapN (h:Sim C σ a w μ Fz Fy) {f:Nat->Option Nat} (hf:∀ s s' t,f s=some t->f s'=some t->s=s') (hfY:∀ s,f s≠some YN) :
  ∃ μ',Sim C (σ.mapN f) a w μ' Fz Fy/\(∀ (n:Nat) (x:V) (v:Value),RepV μ (shs σ) Fz Fy w x v->RepV μ' (shs (σ.mapN f)) Fz Fy w (mapV (onLive σ f) n x) v)/\∀ t,lk t (σ.mapN f).blk≠none->∃ s,lk s σ.blk≠none/\f s=some t/\μ' t=μ s:=by
 classical
 obtain ⟨μ',hμ⟩:∃ μ':Mu,μ'=fun t=>if t=YN then μ YN else if hx:∃ s,lk s σ.blk≠none/\f s=some t then μ hx.choose else none:=⟨_,rfl⟩
 have hμY:μ' YN=μ YN:=by rw [hμ]; simp
 have hμs:∀ s t,lk s σ.blk≠none->f s=some t->μ' t=μ s:=fun s t hs hft=>by
  have hne:t≠YN:=fun e=>hfY s (e▸hft)
  have hx:∃ s,lk s σ.blk≠none/\f s=some t:=⟨s,hs,hft⟩
  rw [hμ]
  simp only [hne,if_false,hx,dite_true]
  have:=hx.choose_spec
  rw [hf _ _ _ this.2 hft]
 have hblk:∀ s t,f s=some t->lk t (σ.mapN f).blk=(lk s σ.blk).map (mapB (onLive σ f)):=fun s t hft=>lk_mapBlk hf hft
 have hwho:∀ t,lk t (σ.mapN f).blk≠none->∃ s,lk s σ.blk≠none/\f s=some t/\μ' t=μ s:=fun t ht=>by
  cases hb:lk t (σ.mapN f).blk with
  | none=>exact absurd hb ht
  | some b =>
   obtain ⟨s,hs⟩:=lk_mapBlk_some hf hb
   have hs':lk s σ.blk≠none:=fun e=>by rw [hblk s t hs,e] at hb; cases hb
   exact ⟨s,hs',hs,hμs s t hs' hs⟩
 have hg:∀ s t,onLive σ f s=some t->shs (σ.mapN f) t=shs σ s/\μ' t=μ s/\shs σ s≠none:=fun s t e=>by
  unfold onLive at e
  split at e
  ·rename_i hp
   have hs:lk s σ.blk≠none:=fun e'=>by simp [pres,e'] at hp
   refine ⟨?_,hμs s t hs e,pres_sh hp⟩
   simp only [shs,hblk s t e,Option.map_map]
   congr 1
   funext b; exact shp_mapB _ b
  ·cases e
 have hrep:=fun n x v=>mapV_sound (Fz:=Fz) (Fy:=Fy) (w:=w) (sh:=shs σ) (sh':=shs (σ.mapN f)) (μ:=μ) (μ':=μ') (g:=onLive σ f) (fun l hl=>hμY.trans hl) hg n (x:=x) (v:=v)
 refine ⟨μ',?_,hrep,hwho⟩
 refine { h with env:=fun k v hk=>⟨trivial,?_⟩,blk:=fun t b hb=>?_,live:=fun t ht b base hm=>?_,inj:=fun t u ht hu htu b base b' base' hm hm'=>?_,fm:=fun b hb=>⟨(h.fm b hb).1,(h.fm b hb).2.1,fun t ht base hm=>?_⟩,yd:=fun y hy=>⟨hμY.trans (h.yd y hy).1,(h.yd y hy).2⟩ }
 ·simp only [St.mapN,lk_mapEnv,Option.map_eq_some_iff] at hk
  obtain ⟨v',hv',rfl⟩:=hk
  exact hrep 6 _ _ (h.env k v' hv').2
 ·obtain ⟨s,hs,hft,hm⟩:=hwho t (by simp [hb])
  rw [hblk s t hft] at hb
  simp only [Option.map_eq_some_iff] at hb
  obtain ⟨b0,hb0,rfl⟩:=hb
  exact repB_map (fun y _ v hv=>hrep 6 _ _ hv) hm (h.blk s b0 hb0)
 ·obtain ⟨s,hs,hft,hm'⟩:=hwho t ht
  exact h.live s hs b base (hm'▸hm)
 ·obtain ⟨s,hs,hft,h1⟩:=hwho t ht
  obtain ⟨s',hs',hft',h2⟩:=hwho u hu
  exact h.inj s s' hs hs' (fun e=>htu (by subst e; rw [hft] at hft'; simpa using hft')) b base b' base' (h1▸hm) (h2▸hm')
 ·obtain ⟨s,hs,hft,hm'⟩:=hwho t ht
  exact (h.fm b hb).2.2 s hs base (hm'▸hm)
end
def fup (s:Nat):Option Nat:=some (s+100000000)
theorem fup_inj (s s' t:Nat) (h:fup s=some t) (h':fup s'=some t):s=s':=by
 simp only [fup,Option.some.injEq] at h h'; omega
theorem fup_YN (s:Nat):fup s≠some YN:=by
 simp only [fup,ne_eq,Option.some.injEq,YN]; omega
def parEnv:Nat->List V->List (Nat×V)
 | _,[]=>[]
 | k,v :: r=>(k,v) :: parEnv (k+1) r
theorem lk_parEnv:∀ (vs:List V) (k j:Nat),lk j (parEnv k vs)=if k<=j then vs[j-k]? else none
 | [],k,j=>by simp [parEnv,lk]
 | v :: r,k,j=>by
  simp only [parEnv,lk]
  by_cases h:j=k
  ·subst h; simp
  ·rw [if_neg h,lk_parEnv r (k+1) j]
   by_cases h2:k<=j
   ·rw [if_pos h2,if_pos (by omega)]
    obtain ⟨m,hm⟩:∃ m,j-k=m+1:=⟨j-k-1,by omega⟩
    rw [hm,show j-(k+1)=m from by omega]
    simp
   ·rw [if_neg h2,if_neg (by omega)]
def yfree:Nat->V->Bool
 | 0,_=>false
 | n+1,v=>match v with
  | .yv=>false
  | .agg cs=>cs.all (yfree n)
  | .tup cs=>cs.all (yfree n)
  | .fn _ a b=>a.all (yfree n)&&b.all (yfree n)
  | _=>true
theorem yfree_rep {μ μ' sh:Mu} {Fz Fy:Nat->Prop} {w:World} (hμ:∀ s,s≠YN->μ' s=μ s) (hY:sh YN=none):∀ (n:Nat) {x:V} {v:Value},yfree n x=true->RepV μ sh Fz Fy w x v->RepV μ' sh Fz Fy w x v
 | 0,_,_,h,_=>by simp [yfree] at h
 | n+1,x,v,hf,hv=>by
  have ne:∀ {s:Nat} {p:Nat×Nat},sh s=some p->s≠YN:=fun h e=>by rw [e,hY] at h; cases h
  cases hv with
  | yv=>simp [yfree] at hf
  | top=>exact .top _
  | fv _ _ _ h=>exact .fv _ _ _ h
  | ownx t o l _ h=>exact .ownx t o l _ h
  | own t o l ad cap sz nn hs hn hc hmm=>exact .own t o l ad cap sz nn hs hn hc (hmm.imp id fun ⟨b,base,h1,h2,h3⟩=>⟨b,base,(hμ t (ne hs)).trans h1,h2,h3⟩)
  | ptrx t o _ h=>exact .ptrx t o _ h
  | ptr t o b base h =>
   by_cases e:t=YN
   ·exact .ptrx t o _ (e▸hY)
   ·exact .ptr t o b base ((hμ t e).trans h)
  | pelx t i j _ h=>exact .pelx t i j _ h
  | pel t i j sz nn b base hs hi h=>exact .pel t i j sz nn b base hs hi ((hμ t (ne hs)).trans h)
  | mapx t _ h=>exact .mapx t _ h
  | map t b base h =>
   by_cases e:t=YN
   ·exact .mapx t _ (e▸hY)
   ·exact .map t b base ((hμ t e).trans h)
  | agg cs vs hs hr =>
   simp only [yfree,List.all_eq_true] at hf
   exact .agg cs vs hs fun j y hj=>yfree_rep hμ hY n (hf y (List.mem_of_getElem? hj)) (hr j y hj)
  | tup cs vs hs hr =>
   simp only [yfree,List.all_eq_true] at hf
   exact .tup cs vs hs fun j y hj=>yfree_rep hμ hY n (hf y (List.mem_of_getElem? hj)) (hr j y hj)
  | fn f as bs vf vc hs hs' hr hr' =>
   simp only [yfree,Bool.and_eq_true,List.all_eq_true] at hf
   exact .fn f as bs vf vc hs hs' (fun j y hj=>yfree_rep hμ hY n (hf.1 y (List.mem_of_getElem? hj)) (hr j y hj)) fun j y hj=>yfree_rep hμ hY n (hf.2 y (List.mem_of_getElem? hj)) (hr' j y hj)
theorem yfree_repB {μ μ' sh:Mu} {Fz Fy:Nat->Prop} {w:World} (hμ:∀ s,s≠YN->μ' s=μ s) (hY:sh YN=none) {s:Nat} (hs:s≠YN) {b:Blk} (hf:(bcells b).all (yfree 6)=true) (h:RepB μ sh Fz Fy w s b):RepB μ' sh Fz Fy w s b:=by
 rw [List.all_eq_true] at hf
 have e:bmapB id b=b:=by cases b<;>simp [bmapB]
 have:=repB_map (f:=id) (fun y hy v hv=>yfree_rep hμ hY 6 (hf y hy) hv) (hμ s hs) h
 rwa [e] at this
def guardA (ops:List Oper) (σ:St) (o:Oper):Option Bool :=
 match o.guard with
 | none=>some true
 | some (j,want)=>match ops[j]? with
  | some p=>match p.dst with
   | some t=>match opd σ (.tmp t) with
    | some (.fv _ (.bool b))=>some (b==want)
    | some (.tup [])=>some false
    | _=>none
   | none=>none
  | none=>none
def unsetS (σ:St) (d:Option Nat):St :=
 match d with
 | some d=>{ σ with env:=rm d σ.env }
 | none=>σ
def skipS (N:Nat) (σ:St) (d:Option Nat):St :=
 match d with
 | some d=>if d < N then { σ with env:=put d (.tup []) σ.env } else { σ with env:=rm d σ.env }
 | none=>σ
def runOps (G:Pg) (keep:List Nat) (N:Nat) (ops:List Oper):List Oper->St->Option St
 | [],σ=>some σ
 | o :: r,σ=>match guardA ops σ o with
  | some true=>match stepX G keep N σ o with
   | some σ'=>runOps G keep N ops r σ'
   | none=>none
  | some false=>runOps G keep N ops r (skipS N σ o.dst)
  | none=>none
section
variable {C:Base} {σ:St} {a:Act} {w w':World} {μ:Mu} {Fz Fy:Nat->Prop} {G:Pg}
theorem guardA_sound (h:Sim C σ a w μ Fz Fy) {ops:Array Oper} {o:Oper} {b:Bool} (hg:guardA ops.toList σ o=some b):Region.wanted o (yielded ops a.tmps)=b:=by
 unfold guardA at hg
 unfold Region.wanted
 split at hg
 ·rename_i e; rw [e]; simpa using hg
 ·rename_i j want e
  rw [e]
  split at hg
  ·rename_i p hp
   split at hg
   ·rename_i t ht
    split at hg
    ·rename_i q bb hb
     simp only [Option.some.injEq] at hg; subst hg
     have hv:=opd_sound h hb
     have hp':ops[j]? = some p:=by simpa using hp
     have htm:a.tmps[t]? = some (.bool bb):=by
      have h2:RepV μ (shs σ) Fz Fy w (.fv q (.bool bb)) (a.tmps.getD t undef):=hv
      rw [Array.getD_eq_getD_getElem?] at h2
      cases hx:a.tmps[t]? with
      | none =>
       rw [hx] at h2
       simp only [Option.getD_none] at h2
       generalize hu:undef=u at h2
       cases h2 with
       | fv _ _ _ h2=>cases h2; simp [undef] at hu
      | some u =>
       rw [hx] at h2
       simp only [Option.getD_some] at h2
       cases h2 with
       | fv _ _ _ h2=>cases h2; rfl
     simp only [yielded,hp',Option.bind_some,ht,htm]
     cases bb<;>cases want<;>rfl
    ·rename_i hb
     simp only [Option.some.injEq] at hg; subst hg
     have hv:=opd_sound h hb
     have hp':ops[j]? = some p:=by simpa using hp
     have h2:RepV μ (shs σ) Fz Fy w (.tup []) (a.tmps.getD t undef):=hv
     have hno:∀ b,a.tmps[t]?≠some (.bool b):=fun b hx=>by
      rw [Array.getD_eq_getD_getElem?,hx] at h2
      simp only [Option.getD_some] at h2
      exact nomatch h2
     have hy:yielded ops a.tmps j=none:=by
      simp only [yielded,hp',Option.bind_some,ht]
     simp only [hy]; cases want<;>rfl
    ·simp at hg
   ·simp at hg
  ·simp at hg
theorem Sim.unset' (h:Sim C σ a w μ Fz Fy) (d:Option Nat) (v:Value):Sim C (unsetS σ d) (a.put d v) w μ Fz Fy:=by
 have:=h.unset d v
 cases d<;>exact this
theorem Sim.skip' (h:Sim C σ a w μ Fz Fy) (d:Option Nat):Sim C (skipS C.N σ d) (a.put d undef) w μ Fz Fy:=by
 cases d with
 | none=>exact h.unset none undef
 | some d =>
  unfold skipS
  simp only
  split
  ·rename_i hd
   exact h.set d hd (.tup []) undef (.tup [] #[] rfl (fun j y hj=>by simp at hj))
  ·exact h.unset (some d) undef
theorem runOps_sound (hT:TOk G) (hC:CtxOk G) {keep:List Nat} {ops:Array Oper} {Q:Exit->Act->World->Prop} {ro:Option Nat} {rm:Nat}:∀ (l:List Oper) {C:Base} {σ σ':St} {a:Act} {w:World} {μ:Mu} {Fz Fy:Nat->Prop},YOk G C->Sim C σ a w μ Fz Fy ->
  runOps G keep C.N ops.toList l σ=some σ'->(∀ M' a' w' μ' Fz' Fy',More C M'->Sim (C.withM M') σ' a' w' μ' Fz' Fy'->Q .normal a' w')->wpListIn (FR ro) rm G.P ops Q l a w
 | [],C,σ,σ',a,w,μ,Fz,Fy,hY,h,hr,hQ=>by
  simp only [runOps,Option.some.injEq] at hr; subst hr
  exact hQ C.M _ _ _ _ _ (More.refl C) h
 | o :: l,C,σ,σ',a,w,μ,Fz,Fy,hY,h,hr,hQ=>by
  simp only [runOps] at hr
  split at hr
  ·rename_i hg
   split at hr
   ·rename_i σ1 hs
    have hw:=guardA_sound h hg
    unfold wpListIn
    rw [if_pos hw]
    exact stepX_sound hT hC hY h hs fun M' a' w' μ' Fz' Fy' hM h'=>runOps_sound hT hC l (hY.withM M') h' hr fun M'' a' w' μ' Fz' Fy' hM' h'=>hQ M'' a' w' μ' Fz' Fy' (hM.trans hM') h'
   ·simp at hr
  ·rename_i hg
   have hw:=guardA_sound h hg
   unfold wpListIn
   rw [if_neg (by simp [hw])]
   exact ⟨fun _ _=>trivial,runOps_sound hT hC l hY (h.skip' o.dst) hr hQ⟩
  ·simp at hr
end
inductive Ex where
 | normal
 | exit (id:Nat)
 | ret
def Ex.toExit:Ex->Exit
 | .normal=>.normal
 | .exit id=>.exit id
 | .ret=>.ret
abbrev Drawer:=Nat->List Oper->St->Option St
def memN (j:Nat):List Nat->Bool
 | []=>false
 | k :: r=>if j=k then true else memN j r
def keepN (j:Nat) (l:List Nat):Bool:=if hi j=true then true else memN j l
def kpIf {α:Type} (p:Nat->Bool):List (Nat×α)->List (Nat×α)
 | []=>[]
 | (j,u) :: r=>if p j=true then (j,u) :: kpIf p r else kpIf p r
theorem lk_kpIf {α:Type} {p:Nat->Bool} {k:Nat} {v:α}:∀ {l:List (Nat×α)},lk k (kpIf p l)=some v->lk k l=some v
 | [],h=>by simp [kpIf,lk] at h
 | (j,u) :: r,h=>by
  simp only [kpIf] at h
  split at h
  ·simp only [lk] at h ⊢
   split at h
   ·rename_i e; rw [if_pos e]; exact h
   ·rename_i e; rw [if_neg e]; exact lk_kpIf h
  ·rename_i hn
   simp only [lk]
   split
   ·rename_i e; subst e
    have:∀ l:List (Nat×α),lk k (kpIf p l)=none:=fun l=>by
     induction l with
     | nil=>rfl
     | cons x l ih =>
      obtain ⟨i,w⟩:=x
      simp only [kpIf]
      split
      ·rename_i hm; simp only [lk]; rw [if_neg (fun e':k=i=>hn (by rw [e']; exact hm))]; exact ih
      ·exact ih
    rw [this r] at h; simp at h
   ·exact lk_kpIf h
def mentE (j:Nat):List (Nat×V)->Bool
 | []=>false
 | (_,v) :: r=>if ment 5 j v=true then true else mentE j r
def inB (j:Nat):List (Nat×Blk)->Bool
 | []=>false
 | (i,b) :: r=>if i=j then true else if (bcells b).any (ment 4 j)=true then true else inB j r
def fin (keep : List Nat × List Nat) (σ : St) : St :=
  { env := kpIf (keepN · keep.1) σ.env,
    blk := kpIf (inB · (kpIf (inB · (kpIf (mentE · (kpIf (keepN · keep.1) σ.env)) σ.blk)) σ.blk)) σ.blk,tr := σ.tr }
abbrev Live:=List (Nat×(List Nat×List Nat))
def kof (L:Live) (id:Nat):List Nat×List Nat :=
 match lk id L with
 | some k=>k
 | none=>([],[])
theorem Sim.sub {C:Base} {σ τ:St} {a:Act} {w:World} {μ:Mu} {Fz Fy:Nat->Prop} (h:Sim C τ a w μ Fz Fy) (he:∀ k v,lk k σ.env=some v->lk k τ.env=some v) (h1:∀ s b,lk s σ.blk=some b->lk s τ.blk=some b) (htr:σ.tr.length=τ.tr.length:=by rfl):Sim C σ a w μ Fz Fy:=by
 have hs:∀ t,¬ (fun _:Nat=>False) t->shs σ t=none\/(shs σ t=shs τ t/\μ t=μ t):=fun t _=>by
  cases hb:lk t σ.blk with
  | none=>left; simp [shs,hb]
  | some b=>right; simp [shs,hb,h1 t b hb]
 have hp:∀ t,lk t σ.blk≠none->lk t τ.blk≠none:=fun t ht=>by
  cases hb:lk t σ.blk with
  | none=>exact absurd hb ht
  | some b=>simp [h1 t b hb]
 refine { h with env:=fun k v hk=>?_,blk:=fun t b hb=>?_,live:=fun t ht=>h.live t (hp t ht),inj:=fun t u ht hu=>h.inj t u (hp t ht) (hp u hu),fm:=fun b hb=>⟨(h.fm b hb).1,(h.fm b hb).2.1,fun t ht=>(h.fm b hb).2.2 t (hp t ht)⟩,yd:=fun y hy=>by rw [htr]; exact h.yd y hy }
 ·have hk':=he k v hk
  exact ⟨(h.env k v hk').1,(h.env k v hk').2.mono (fun _ x=>x) (fun _ x=>x) (fun _ _=>rfl) (fun _ _=>rfl) (Keeps.refl w) (fun _=>False) hs (fun _ x=>x) (fun _ x=>x.elim)⟩
 ·exact (h.blk t b (h1 t b hb)).mono (fun _ x=>x) (fun _ x=>x) (fun _ _=>rfl) (fun _ _=>rfl) (Keeps.refl w) (fun _=>False) hs (fun _ x=>x) rfl (fun _ _ _=>rfl) (fun _ x=>x.elim)
theorem Sim.fin {C:Base} {σ:St} {a:Act} {w:World} {μ:Mu} {Fz Fy:Nat->Prop} (h:Sim C σ a w μ Fz Fy) (keep:List Nat×List Nat):Sim C (fin keep σ) a w μ Fz Fy :=
 h.sub (fun k v hk=>lk_kpIf hk) fun t b hb=>lk_kpIf hb
def iter (f:St->Option (Ex×St)):Nat->St->Option (Ex×St)
 | 0,_=>none
 | n+1,σ=>match f σ with
  | some (.normal,σ')=>iter f n σ'
  | r=>r
def upEnv:List (Nat×V)->List (Nat×V)
 | []=>[]
 | (k,v) :: r=>(k+100000000,v) :: upEnv r
def dnEnv:List (Nat×V)->List (Nat×V)
 | []=>[]
 | (k,v) :: r=>if hi k=true then (k-100000000,v) :: dnEnv r else dnEnv r
def loEnv:List (Nat×V)->List (Nat×V)
 | []=>[]
 | (k,v) :: r=>if hi k=true then loEnv r else (k,v) :: loEnv r
def St.enter (σ:St):St:={ σ with env:=loEnv σ.env++upEnv σ.env }
def St.leave (σ:St):St:={ σ with env:=dnEnv σ.env }
def bindP (N:Nat):List Nat->List FV->List (Nat×V)->Option (List (Nat×V))
 | [],[],env=>some env
 | p :: ps,x :: xs,env=>if p < N then bindP N ps xs (put p (.fv false x) env) else none
 | _,_,_=>none
def rounds (f:St->Option (Ex×St)) (N:Nat) (ps:List Nat):Nat->List (List FV)->St->Option (Option Nat×Ex×St)
 | _,[],σ=>some (none,.normal,σ)
 | i,x :: r,σ=>match bindP N ps x σ.enter.env with
  | some env=>match f { σ.enter with env:=env } with
   | some (.normal,σ')=>rounds f N ps (i+1) r σ'.leave
   | some (e,σ')=>some (some i,e,σ'.leave)
   | none=>none
  | none=>none
def handO (σ:St) (ns:List Nat) (f:V):Option (FuncId×List (Nat×Blk)×List V) :=
 match fnOf f with
 | some (k,[],caps) =>
  let τ:St:={ env:=[],blk:=kpIf (memN · ns) σ.blk,tr:=σ.tr }
  if caps.all (yfree 6)=true/\(τ.blk.all fun e=>(bcells e.2).all (yfree 6))=true then some (k,(τ.mapN fup).blk,caps.map (mapV (onLive τ fup) 6)) else none
 | _=>none
def exec (G:Pg) (L:Live) (N:Nat) (D:Drawer) (n:Nat):Code->St->Option (Ex×St)
 | .skip,σ=>some (.normal,σ)
 | .region id ops draw,σ=>match (if draw then D id ops.toList σ else runOps G (kof L id).1 N ops.toList ops.toList σ) with
  | some σ'=>some (.normal,fin (kof L id) σ')
  | none=>none
 | .seq x y,σ=>match exec G L N D n x σ with
  | some (.normal,σ')=>exec G L N D n y σ'
  | r=>r
 | .cond c x y,σ=>match opd σ c with
  | some (.fv _ (.bool b))=>if b then exec G L N D n x σ else exec G L N D n y σ
  | _=>none
 | .block id c,σ=>match exec G L N D n c σ with
  | some (.exit j,σ')=>if j=id then some (.normal,σ') else some (.exit j,σ')
  | r=>r
 | .loop c,σ=>iter (exec G L N D n c) n σ
 | .exit id,σ=>some (.exit id,σ)
 | .ret,σ=>some (.ret,σ)
 | .scope c,σ=>exec G L N D n c σ
 | .label _,σ=>some (.normal,σ)
 | .rangeFunc g ps assign body,σ=>match opd σ g with
  | some f=>match frz σ 6 f with
   | some (ns,ro,.fn (.func k) [] caps)=>match G.itr k (caps.map fun c=>(ro,c)) with
    | some xs=>match rounds (fun τ=>match exec G L N D n assign τ with
      | some (.normal,τ')=>exec G L N D n body τ'
      | _=>none) N ps.toList 0 xs (frees σ ns) with
     | some (none,_,σ')=>some (.normal,σ')
     | some (some i,e,σ')=>if G.its k (caps.map fun c=>(ro,c)) i=true then some (e,σ') else none
     | none=>none
    | none=>match handO σ ns f with
     | some (k',bs,caps')=>match G.itrH k' bs caps' with
      | some xs=>match rounds (fun τ=>match exec G L N D n assign τ with
        | some (.normal,τ')=>exec G L N D n body τ'
        | _=>none) N ps.toList 0 xs (frees σ ns) with
       | some (none,_,σ')=>some (.normal,σ')
       | _=>none
      | none=>none
     | none=>none
   | _=>none
  | none=>none
 | _,_=>none
end Go.Proofs.YtejodhjhddnbeaaDoor.E
