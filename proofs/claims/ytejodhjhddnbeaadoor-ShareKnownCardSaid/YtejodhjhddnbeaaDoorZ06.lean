/-
  The engine: a symbolic run of a body, proved sound once for any program. Conditions: none.
-/
import Derived.Test.YtejodhjhddnbeaaDoorZ05
set_option linter.unusedVariables false
set_option linter.unusedSimpArgs false
namespace Go.Proofs.YtejodhjhddnbeaaDoor.E
open Go Go.RowKit
def Le (σ τ:St):Prop:=(∀ k v,lk k σ.env=some v->lk k τ.env=some v)/\∀ s b,lk s σ.blk=some b->lk s τ.blk=some b
section
variable {σ τ:St} {G:Pg}
theorem pres_mono (H:Le σ τ) {s:Nat} (h:pres σ s=true):pres τ s=true:=by
 simp only [pres,Option.isSome_iff_exists] at h ⊢
 obtain ⟨b,hb⟩:=h
 exact ⟨b,H.2 _ _ hb⟩
theorem opd_mono (H:Le σ τ) {x:Operand} {v:V} (h:opd σ x=some v):opd τ x=some v:=by
 cases x with
 | tmp t =>
  simp only [opd] at h ⊢
  split at h
  ·simp at h
  ·rename_i hg; rw [if_neg hg]; exact H.1 _ _ h
 | const v=>exact h
 | func f=>exact h
 | global g=>exact h
theorem look_mono (H:Le σ τ) {p:V} {n:Nat} {cs:List V} (h:look σ p n=some cs):look τ p n=some cs:=by
 unfold look at h ⊢
 split at h
 ·exact h
 ·exact h
 ·split at h
  ·rename_i hb; (try simp only [H.2 _ _ hb]); exact h
  ·simp at h
 ·split at h
  ·rename_i hb; (try simp only [H.2 _ _ hb]); exact h
  ·rename_i hb; (try simp only [H.2 _ _ hb]); exact h
  ·simp at h
 ·simp at h
theorem loadA_mono (H:Le σ τ) {t:Nat} {p r:V} (h:loadA G σ t p=some r):loadA G τ t p=some r:=by
 unfold loadA at h ⊢
 split at h
 ·rename_i ti hti
  split at h
  ·rename_i cs hl; (try simp only [hti,look_mono H hl]); exact h
  ·simp at h
 ·simp at h
theorem padd_mono (H:Le σ τ) {p r:V} {k:Nat} (h:padd σ p k=some r):padd τ p k=some r:=by
 unfold padd at h ⊢
 split at h
 ·exact h
 ·split at h
  ·rename_i hp; (try simp only [pres_mono H hp,if_true]); exact h
  ·simp at h
 ·split at h
  ·rename_i hp; (try simp only [pres_mono H hp,if_true]); exact h
  ·simp at h
 ·simp at h
theorem fieldA_mono (H:Le σ τ) {t:Nat} {p r:V} {i:Nat} (h:fieldA G σ t p i=some r):fieldA G τ t p i=some r:=by
 unfold fieldA at h ⊢
 split at h
 ·rename_i e; (try simp only [e])
  split at h
  ·rename_i e1; (try simp only [e1])
   split at h
   ·rename_i e2; (try simp only [e2])
    split at h
    ·simp at h
    ·rename_i h0; rw [if_neg h0]; exact padd_mono H h
   ·simp at h
  ·simp at h
 ·simp at h
theorem indexA_mono (H:Le σ τ) {t:Nat} {p r:V} {n:Int} (h:indexA G σ t p n=some r):indexA G τ t p n=some r:=by
 unfold indexA at h ⊢
 split at h
 ·rename_i e; (try simp only [e])
  split at h
  ·rename_i e1; (try simp only [e1])
   split at h
   ·split at h
    ·rename_i hb; (try simp only [H.2 _ _ hb]); exact h
    ·rename_i hb; (try simp only [H.2 _ _ hb]); exact h
    ·simp at h
   ·exact h
   ·simp at h
  ·simp at h
 ·rename_i e; (try simp only [e])
  split at h
  ·rename_i e1; (try simp only [e1])
   split at h
   ·rename_i h0; rw [if_pos h0]; exact padd_mono H h
   ·simp at h
  ·simp at h
 ·simp at h
theorem subsl_mono (H:Le σ τ) {t:Nat} {p r:V} {lo:Int} {hi mx:Option Int} (h:subsl G σ t p lo hi mx=some r):subsl G τ t p lo hi mx=some r:=by
 unfold subsl at h ⊢
 split at h
 ·rename_i e; (try simp only [e])
  split at h
  ·rename_i e1; (try simp only [e1])
   split at h
   ·split at h
    ·rename_i hb; (try simp only [H.2 _ _ hb]); exact h
    ·simp at h
   ·exact h
   ·simp at h
  ·simp at h
 ·simp at h
theorem vcells_mono (H:Le σ τ) {x:V} {cs:List V} (h:vcells σ x=some cs):vcells τ x=some cs:=by
 unfold vcells at h ⊢
 split at h
 ·exact h
 ·exact h
 ·exact h
 ·split at h
  ·rename_i hp; (try simp only [pres_mono H hp,if_true]); exact h
  ·simp at h
 ·split at h
  ·rename_i hp; (try simp only [pres_mono H hp,if_true]); exact h
  ·simp at h
 ·split at h
  ·rename_i hp; (try simp only [pres_mono H hp,if_true]); exact h
  ·simp at h
 ·split at h
  ·rename_i hp; (try simp only [pres_mono H hp,if_true]); exact h
  ·simp at h
 ·exact h
 ·simp at h
theorem fillV_mono (H:Le σ τ) {pl:List (Nat×Nat)}:∀ {ps:List (Nat×V)} {cells r:List V},fillV σ pl cells ps=some r->fillV τ pl cells ps=some r
 | [],cells,r,h=>by simpa [fillV] using h
 | (i,v) :: rest,cells,r,h=>by
  simp only [fillV] at h ⊢
  split at h
  ·rename_i e1 e2
   (try simp only [e1,vcells_mono H e2])
   split at h
   ·rename_i h0; rw [if_pos h0]; exact fillV_mono H h
   ·simp at h
  ·simp at h
theorem opds_mono (H:Le σ τ):∀ {xs:List Operand} {vs:List V},opds σ xs=some vs->opds τ xs=some vs
 | [],vs,h=>by simpa [opds] using h
 | x :: r,vs,h=>by
  simp only [opds] at h ⊢
  split at h
  ·rename_i e1 e2
   simp only [opd_mono H e1,opds_mono H e2]; exact h
  ·simp at h
theorem parts_mono (H:Le σ τ):∀ {xs:List (Nat×Operand)} {vs:List (Nat×V)},parts σ xs=some vs->parts τ xs=some vs
 | [],vs,h=>by simpa [parts] using h
 | (i,x) :: r,vs,h=>by
  simp only [parts] at h ⊢
  split at h
  ·rename_i e1 e2
   simp only [opd_mono H e1,parts_mono H e2]; exact h
  ·simp at h
theorem buildA_mono (H:Le σ τ) {t:Nat} {ps:List (Nat×V)} {r:V} (h:buildA G σ t ps=some r):buildA G τ t ps=some r:=by
 unfold buildA at h ⊢
 split at h
 ·rename_i e; (try simp only [e])
  split at h
  ·rename_i e1; (try simp only [e1])
   simp only [Option.map_eq_some_iff] at h ⊢
   obtain ⟨x,hx,rfl⟩:=h
   exact ⟨x,fillV_mono H hx,rfl⟩
  ·simp at h
 ·rename_i e; (try simp only [e])
  split at h
  ·rename_i e1; (try simp only [e1])
   simp only [Option.map_eq_some_iff] at h ⊢
   obtain ⟨x,hx,rfl⟩:=h
   exact ⟨x,fillV_mono H hx,rfl⟩
  ·simp at h
 ·simp at h
theorem nonnil_mono (H:Le σ τ) {x r:V} (h:nonnil σ x=some r):nonnil τ x=some r:=by
 unfold nonnil at h ⊢
 split at h
 ·exact h
 ·exact h
 ·split at h
  ·rename_i hp; (try simp only [pres_mono H hp,if_true]); exact h
  ·simp at h
 ·split at h
  ·rename_i hp; (try simp only [pres_mono H hp,if_true]); exact h
  ·simp at h
 ·exact h
 ·exact h
 ·simp at h
theorem lenA_mono (H:Le σ τ) {t:Nat} {x:V} {n:Int} (h:lenA G σ t x=some n):lenA G τ t x=some n:=by
 unfold lenA at h ⊢
 split at h
 ·rename_i e; (try simp only [e])
  split at h
  ·rename_i hp; (try simp only [pres_mono H hp,if_true]); exact h
  ·simp at h
 ·rename_i e; (try simp only [e]); exact h
 ·rename_i e; (try simp only [e]); exact h
 ·simp at h
theorem popt_mono (H:Le σ τ) {x:Option Operand} {v:Option V} (h:popt σ x=some v):popt τ x=some v:=by
 cases x with
 | none=>exact h
 | some y =>
  simp only [popt,Option.map_eq_some_iff] at h ⊢
  obtain ⟨u,hu,rfl⟩:=h
  exact ⟨u,opd_mono H hu,rfl⟩
theorem popA_mono (H:Le σ τ) {o:Op} {r:V} (h:popA G σ o=some r):popA G τ o=some r:=by
 unfold popA at h ⊢
 split at h
 ·exact opd_mono H h
 ·exact opd_mono H h
 ·split at h
  ·rename_i e; (try simp only [opd_mono H e])
   split at h
   ·rename_i h0; rw [if_pos h0]; exact opd_mono H h
   ·rename_i h0; rw [if_neg h0]; exact opd_mono H h
  ·simp at h
 ·split at h
  ·rename_i e; (try simp only [opd_mono H e]); exact loadA_mono H h
  ·simp at h
 ·split at h
  ·rename_i e; (try simp only [opd_mono H e]); exact nonnil_mono H h
  ·simp at h
 ·split at h
  ·rename_i e1 e2; (try simp only [opd_mono H e1,opd_mono H e2]); exact h
  ·rename_i e1 e2; (try simp only [opd_mono H e1,opd_mono H e2])
   split at h
   ·rename_i e3; (try simp only [e3])
    split at h
    ·rename_i h0; rw [if_pos (pres_mono H h0)]; exact h
    ·simp at h
   ·simp at h
  ·simp at h
 ·split at h
  ·rename_i e1 e2 e3; (try simp only [opd_mono H e1,e2,e3]); exact h
  ·simp at h
 ·split at h
  ·rename_i e1; (try simp only [opd_mono H e1]); exact h
  ·simp at h
 ·split at h
  ·rename_i e1 e2; (try simp only [opds_mono H e1,opds_mono H e2]); exact h
  ·simp at h
 ·split at h
  ·rename_i e1 e2 e3 e4
   simp only [opd_mono H e1,popt_mono H e2,popt_mono H e3,popt_mono H e4]
   split at h
   ·rename_i d1 d2 d3
    (try simp only [d1,d2,d3])
    split at h
    ·rename_i h0; rw [if_pos h0]; exact subsl_mono H h
    ·simp at h
   ·simp at h
  ·simp at h
 ·split at h
  ·rename_i e1; (try simp only [opd_mono H e1]); exact fieldA_mono H h
  ·simp at h
 ·split at h
  ·rename_i e1 e2; (try simp only [opd_mono H e1,opd_mono H e2])
   split at h
   ·rename_i d; (try simp only [d]); exact indexA_mono H h
   ·simp at h
  ·simp at h
 ·split at h
  ·rename_i e1 e2; (try simp only [opd_mono H e1,e2]); exact h
  ·simp at h
 ·split at h
  ·rename_i e1 e2 e3; (try simp only [opd_mono H e1,opd_mono H e2,e3]); exact h
  ·rename_i e1 e2 e3; (try simp only [opd_mono H e1,opd_mono H e2,e3]); exact h
  ·simp at h
 ·split at h
  ·rename_i e1; (try simp only [opd_mono H e1]); exact h
  ·simp at h
 ·split at h
  ·rename_i e1; (try simp only [parts_mono H e1]); exact buildA_mono H h
  ·simp at h
 ·split at h
  ·split at h
   ·rename_i e1 e2
    (try simp only [e1,e2])
    split at h
    ·rename_i e3
     simp only [opd_mono H e3]
     simp only [Option.map_eq_some_iff] at h ⊢
     obtain ⟨n,hn,rfl⟩:=h
     exact ⟨n,lenA_mono H hn,rfl⟩
    ·simp at h
   ·simp at h
  ·split at h
   ·rename_i e1
    (try simp only [e1])
    split at h
    ·rename_i d1 d2; (try simp only [opd_mono H d1,opd_mono H d2]); exact h
    ·simp at h
   ·simp at h
  ·split at h
   ·rename_i e1
    (try simp only [e1])
    split at h
    ·rename_i d1 d2; (try simp only [opd_mono H d1,opd_mono H d2]); exact h
    ·simp at h
   ·simp at h
  ·simp at h
 ·simp at h
theorem frzL_mono {f g:V->Option Fix} (hfg:∀ v r,f v=some r->g v=some r):∀ {vs:List V} {r:List Nat×Bool×List FV},frzL f vs=some r->frzL g vs=some r
 | [],r,h=>by simpa [frzL] using h
 | v :: vs,r,h=>by
  simp only [frzL] at h ⊢
  split at h
  ·rename_i e1 e2
   simp only [hfg _ _ e1,frzL_mono hfg e2]; exact h
  ·simp at h
theorem frz_mono (H:Le σ τ):∀ (n:Nat) {v:V} {r:Fix},frz σ n v=some r->frz τ n v=some r
 | 0,v,r,h=>by simp [frz] at h
 | n+1,v,r,h=>by
  have ih:∀ v r,frz σ n v=some r->frz τ n v=some r:=fun v r=>frz_mono H n
  unfold frz at h ⊢
  split at h
  ·exact h
  ·split at h
   ·rename_i hb; (try simp only [H.2 _ _ hb]); exact h
   ·simp at h
  ·split at h
   ·rename_i hb; (try simp only [H.2 _ _ hb]); exact h
   ·simp at h
  ·split at h
   ·rename_i hb; (try simp only [H.2 _ _ hb])
    split at h
    ·rename_i e
     (try simp only [e])
     split at h
     ·rename_i e1 e2; (try simp only [frzL_mono ih e1,frzL_mono ih e2]); exact h
     ·simp at h
    ·rename_i e
     (try simp only [e])
     split at h
     ·rename_i e1; (try simp only [frzL_mono ih e1]); exact h
     ·simp at h
   ·simp at h
  ·split at h
   ·rename_i e1; (try simp only [frzL_mono ih e1]); exact h
   ·simp at h
  ·split at h
   ·rename_i e1 e2; (try simp only [frzL_mono ih e1,frzL_mono ih e2]); exact h
   ·simp at h
  ·split at h
   ·rename_i h0; rw [if_pos (pres_mono H h0)]; exact h
   ·simp at h
  ·simp at h
theorem argsA_mono (H:Le σ τ):∀ {vs:List V} {xs:List (Bool×FV)},argsA σ vs=some xs->argsA τ vs=some xs
 | [],xs,h=>by simpa [argsA] using h
 | v :: r,xs,h=>by
  simp only [argsA] at h ⊢
  split at h
  ·rename_i e1 e2
   simp only [frz_mono H _ e1,argsA_mono H e2]; exact h
  ·simp at h
theorem elemA_mono (H:Le σ τ) {v:V} {r:List Nat×FV} (h:elemA σ v=some r):elemA τ v=some r:=by
 unfold elemA at h ⊢
 split at h
 ·rename_i e1; (try simp only [frz_mono H _ e1]); exact h
 ·simp at h
theorem elemsA_mono (H:Le σ τ):∀ {vs:List V} {r:List Nat×List FV},elemsA σ vs=some r->elemsA τ vs=some r
 | [],r,h=>by simpa [elemsA] using h
 | v :: vs,r,h=>by
  simp only [elemsA] at h ⊢
  split at h
  ·rename_i e1 e2
   simp only [elemA_mono H e1,elemsA_mono H e2]; exact h
  ·simp at h
theorem guardA_mono (H:Le σ τ) {ops:List Oper} {o:Oper} {b:Bool} (h:guardA ops σ o=some b):guardA ops τ o=some b:=by
 unfold guardA at h ⊢
 split at h
 ·rename_i e; (try simp only [e]); exact h
 ·rename_i e; (try simp only [e])
  split at h
  ·rename_i e1; (try simp only [e1])
   split at h
   ·rename_i e2; (try simp only [e2])
    split at h
    ·rename_i e3; (try simp only [opd_mono H e3]); exact h
    ·rename_i e3; (try simp only [opd_mono H e3]); exact h
    ·simp at h
   ·simp at h
  ·simp at h
end
def maker:Op->Bool
 | .alloc _=>true
 | .buildSlice _ _ _=>true
 | .makeSlice _ _ _=>true
 | .call ⟨.value _,_,_⟩=>true
 | .call ⟨.builtin .append,_,_⟩=>true
 | _=>false
def addRs (d:Nat):List TV->Option (V×Option Blk)
 | [.us sz xs]=>some (.own d 0 xs.length,some (.arr sz xs))
 | [.fv x]=>some (.fv false x,none)
 | [.fv x,.fv y]=>some (.tup [.fv false x,.fv false y],none)
 | _=>none
def addBs (G:Pg) (σ:St) (d t len:Nat) (ps:List (Nat×V)):Option (V×Option Blk) :=
 if G.deep.contains t=true then none else match lk t G.tbl with
 | some ⟨_,_,_,.slice e⟩=>match lk e G.tbl with
  | some ti=>match elemsA σ (ps.map (·.2)) with
   | some ([],ys)=>if ps.map (·.1)=List.range len/\ys.all (cellsOK ti.size)=true/\len*ti.size<=16777216 then some (.own d 0 len,some (.arr ti.size ys)) else none
   | _=>none
  | none=>none
 | _=>none
def addMk (G:Pg) (d t:Nat) (l c:Int):Option (V×Option Blk) :=
 match lk t G.tbl with
 | some ⟨_,_,_,.slice e⟩=>match lk e G.tbl with
  | some ti=>if 0<=l/\l<=c/\ti.bytes*c<=281474976710656/\c<=9223372036854775807/\ti.size≠0 then some (.own d 0 l.toNat,some (.arr ti.size (List.replicate l.toNat (elemOf ti.zero)))) else none
  | none=>none
 | _=>none
def addCall (G:Pg) (σ:St) (d:Nat) (f:V) (args:List V):Option (V×Option Blk) :=
 match fnOf f with
 | some (k,first,captured)=>if G.hd k=true then (match G.rd k σ.blk (first++args++captured) with
   | some x=>some (.fv false x,none)
   | none=>none) else match argsA σ (first++args++captured) with
  | some xs=>match G.ctx k xs with
   | some res=>addRs d res
   | none=>none
  | none=>none
 | none=>none
def addAsg (G:Pg) (keep:List Nat) (d ty:Nat) (v:V):Option (V×Option Blk) :=
 match v with
 | .own s off len=>if (s==d||keep.contains s)=true then some (.own s off len,none) else none
 | .fv ro (.sl true sz [])=>match lk ty G.tbl with
  | some ⟨_,_,_,.slice _⟩=>none
  | _=>some (.fv ro (.sl true sz []),none)
 | v=>some (v,none)
def addApp (G:Pg) (σ:St) (d t:Nat) (x y:V):Option (V×Option Blk) :=
 match lk t G.tbl with
 | some ⟨_,_,_,.slice e⟩=>match lk e G.tbl with
  | some ti=>match srcA σ ti.size y with
   | some ys=>match dstA σ ti.size x (!ys.isEmpty) with
    | some (none,xs)=>if (xs.length+ys.length)*ti.bytes<=140737488355328/\ti.bytes≠0 then some (.own d 0 (xs.length+ys.length),some (.arr ti.size (xs++ys))) else none
    | _=>none
   | none=>none
  | none=>none
 | _=>none
def addBs0 (G:Pg) (t len:Nat):Option (V×Option Blk) :=
 match lk t G.tbl with
 | some ⟨_,_,_,.slice e⟩=>match lk e G.tbl with
  | some ti=>if len=0 then some (.fv false (.sl true ti.size []),none) else none
  | none=>none
 | _=>none
def addA (G:Pg) (keep:List Nat) (σ:St) (d ty:Nat):Op->Option (V×Option Blk)
 | .assign x=>match opd σ x with
  | some v=>addAsg G keep d ty v
  | none=>none
 | .box _ _=>none
 | .makeMap _ _=>none
 | .lookup t x k ok=>match opd σ x,opd σ k with
  | some p,some (.fv _ k)=>match lookMap G σ t p k ok with
   | some v=>some (v,none)
   | none=>none
  | _,_=>none
 | .range _ _=>none
 | .entry _=>none
 | .alloc t=>match lk t G.tbl with
  | some ti=>some (.ptr d 0,some (.box (ti.zero.map (.fv false))))
  | none=>none
 | .buildSlice t len ps=>match parts σ ps.toList with
  | some []=>addBs0 G t len
  | some ps=>addBs G σ d t len ps
  | none=>none
 | .makeSlice t l c=>match opd σ l,opd σ c with
  | some l,some c=>match intN l,intN c with
   | some l,some c=>addMk G d t l c
   | _,_=>none
  | _,_=>none
 | .call ⟨.builtin .append,args,ats⟩=>match args.toList,ats.toList with
  | [x,y],[t,t']=>if t=t' then match opd σ x,opd σ y with
    | some x,some y=>addApp G σ d t x y
    | _,_=>none
   else none
  | _,_=>none
 | .call ⟨.value f,args,_⟩=>match opd σ f,opds σ args.toList with
  | some f,some args=>addCall G σ d f args
  | _,_=>none
 | op=>match popA G σ op with
  | some v=>some (v,none)
  | none=>none
theorem addA_maker {G:Pg} {keep:List Nat} {σ:St} {d ty:Nat} {op:Op} {v:V} {ob:Option Blk} (h:addA G keep σ d ty op=some (v,ob)) (hm:maker op=false):ob=none:=by
 unfold addA at h
 split at h
 ·split at h
  ·unfold addAsg at h
   split at h
   ·split at h
    ·simp only [Option.some.injEq,Prod.mk.injEq] at h; exact h.2.symm
    ·cases h
   ·split at h
    ·cases h
    ·simp only [Option.some.injEq,Prod.mk.injEq] at h; exact h.2.symm
   ·simp only [Option.some.injEq,Prod.mk.injEq] at h; exact h.2.symm
  ·cases h
 ·cases h
 ·cases h
 ·split at h
  ·split at h
   ·simp only [Option.some.injEq,Prod.mk.injEq] at h; exact h.2.symm
   ·cases h
  ·cases h
 ·cases h
 ·cases h
 ·simp [maker] at hm
 ·simp [maker] at hm
 ·simp [maker] at hm
 ·simp [maker] at hm
 ·simp [maker] at hm
 ·split at h
  ·simp only [Option.some.injEq,Prod.mk.injEq] at h; exact h.2.symm
  ·cases h
theorem killV_id {d:Nat} {v:V} (h:ment 5 d v=false):killV [d] v=v:=by simp [killV,h]
theorem killB_id {d:Nat} {b:Blk} (h:∀ y∈bcells b,ment 5 d y=false):killB [d] b=b:=by
 cases b with
 | arr=>rfl
 | box cells =>
  simp only [killB]
  congr 1
  exact (List.map_congr_left fun y hy=>killV_id (h y hy)).trans (List.map_id' cells)
 | lst sz n cells =>
  simp only [killB]
  congr 1
  exact (List.map_congr_left fun y hy=>killV_id (h y hy)).trans (List.map_id' cells)
 | mp es =>
  simp only [killB]
  congr 1
  refine (List.map_congr_left (g:=id) fun y hy=>?_).trans (List.map_id es)
  rw [killV_id (h y.2 (List.mem_map.2 ⟨y,hy,rfl⟩))]; rfl
 | mit mv since last seen=>simp only [killB,killV_id (h mv (by simp [bcells]))]
structure Fresh (d:Nat) (τ:St):Prop where
 env:∀ k u,lk k τ.env=some u->ment 5 d u=false
 box:∀ s b,lk s τ.blk=some b->∀ y∈bcells b,ment 5 d y=false
 none:lk d τ.blk=none
theorem kill_env {d:Nat} {τ:St} (h:Fresh d τ) (k:Nat):lk k ((τ.drop d).kill [d]).env=lk k τ.env:=by
 simp only [St.kill,St.drop,lk_map]
 cases hk:lk k τ.env with
 | none=>rfl
 | some u=>simp [killV_id (h.env k u hk)]
theorem kill_blk {d:Nat} {τ:St} (h:Fresh d τ) (s:Nat):lk s ((τ.drop d).kill [d]).blk=lk s τ.blk:=by
 simp only [St.kill,St.drop,lk_map,lk_rm]
 by_cases e:s=d
 ·subst e; simp [h.none]
 ·simp only [e,if_false]
  cases hk:lk s τ.blk with
  | none=>rfl
  | some b =>
   simp only [Option.map_some,killB_id (h.box s b hk)]
theorem mk'_env {d:Nat} {τ:St} (h:Fresh d τ) (b:Blk) (v:V) (k:Nat):lk k (τ.mk' d b v).env=if k=d then some v else lk k τ.env:=by
 simp only [St.mk',lk_put,kill_env h]
theorem mk'_blk {d:Nat} {τ:St} (h:Fresh d τ) (b:Blk) (v:V) (s:Nat):lk s (τ.mk' d b v).blk=if s=d then some b else lk s τ.blk:=by
 simp only [St.mk',lk_put,kill_blk h]
section
variable {π τ:St} {G:Pg}
structure Added (d:Nat) (v:V) (ob:Option Blk) (τ τ':St):Prop where
 env:∀ k,lk k τ'.env=if k=d then some v else lk k τ.env
 blk:∀ s,lk s τ'.blk=if s=d then ob.or (lk s τ.blk) else lk s τ.blk
 tr:τ'.tr=τ.tr
theorem added_mk {d:Nat} (h:Fresh d τ) (b:Blk) (v:V):Added d v (some b) τ (τ.mk' d b v) :=
 ⟨mk'_env h b v,fun s=>by rw [mk'_blk h]; simp,rfl⟩
theorem added_put (d:Nat) (v:V) (τ:St):Added d v none τ { τ with env:=put d v τ.env } :=
 ⟨fun k=>lk_put d k v τ.env,fun s=>by simp,rfl⟩
theorem lookMap_mono (H:Le π τ) {t:Nat} {p:V} {x:FV} {ok:Bool} {r:V} (h:lookMap G π t p x ok=some r):lookMap G τ t p x ok=some r:=by
 unfold lookMap at h ⊢
 split at h
 ·split at h
  ·split at h
   ·rename_i h1 h2 h3
    simp only [H.2 _ _ h1,h2,h3]
    exact h
   ·cases h
  ·cases h
 ·cases h
theorem addCall_step (hC:CtxOk G) (H:Le π τ) {d:Nat} {f:V} {args:List V} {v:V} {ob:Option Blk} (h:addCall G π d f args=some (v,ob)) (hf:ob≠none->Fresh d τ) :
  ∃ τ',callX G τ d f args=some τ'/\Added d v ob τ τ':=by
 unfold addCall at h
 split at h
 ·rename_i k first captured e
  split at h
  ·rename_i hhd
   split at h
   ·rename_i x hx
    simp only [Option.some.injEq,Prod.mk.injEq] at h
    obtain ⟨rfl,rfl⟩:=h
    have hx':=((hC.r k _ _ x hx).2 τ H.2).1
    refine ⟨{ τ with env:=put d (.fv false x) τ.env },?_,added_put d _ τ⟩
    simp only [callX,hdX,e,hhd,if_true,hx']
   ·cases h
  rename_i hhd
  suffices h':∃ τ',callA G τ d f args=some τ'/\Added d v ob τ τ' by
   obtain ⟨τ',h1,h2⟩:=h'
   exact ⟨τ',by simp only [callX,hdX,e,hhd,h1]; rfl,h2⟩
  unfold callA
  (try simp only [e])
  split at h
  ·rename_i xs e1
   simp only [argsA_mono H e1]
   split at h
   ·rename_i res e2
    (try simp only [e2])
    unfold addRs at h
    split at h
    ·rename_i sz ys
     simp only [Option.some.injEq,Prod.mk.injEq] at h
     obtain ⟨rfl,rfl⟩:=h
     have hn:nm d true 0=d:=by simp [nm]
     refine ⟨_,rfl,?_⟩
     simp only [List.length_singleton,BEq.rfl,addRes,hn,packV]
     exact added_mk (hf (by simp)) (.arr sz ys) (.own d 0 ys.length)
    ·simp only [Option.some.injEq,Prod.mk.injEq] at h
     obtain ⟨rfl,rfl⟩:=h
     refine ⟨_,rfl,?_⟩
     simp only [List.length_singleton,BEq.rfl,addRes,packV]
     exact added_put d _ τ
    ·simp only [Option.some.injEq,Prod.mk.injEq] at h
     obtain ⟨rfl,rfl⟩:=h
     exact ⟨_,rfl,added_put d _ τ⟩
    ·simp at h
   ·simp at h
  ·simp at h
 ·simp at h
theorem srcA_mono (H:Le π τ) {sz:Nat} {x:V} {ys:List FV} (h:srcA π sz x=some ys):srcA τ sz x=some ys:=by
 unfold srcA at h ⊢
 split at h
 ·split at h
  ·rename_i e; simp only [H.2 _ _ e]; exact h
  ·cases h
 ·exact h
 ·cases h
theorem dstA_none {sz:Nat} {x:V} {more:Bool} {xs:List FV} (h:dstA π sz x more=some (none,xs)):dstA τ sz x more=some (none,xs):=by
 unfold dstA at h ⊢
 split at h
 ·split at h
  ·split at h
   ·simp at h
   ·cases h
  ·cases h
 ·exact h
 ·cases h
theorem subsl_ptr {G:Pg} {σ:St} {t s o:Nat} {lo:Int} {hi mx:Option Int}:subsl G σ t (.ptr s o) lo hi mx=none:=by
 unfold subsl
 split
 ·split<;>rfl
 ·rfl
theorem addA_step (hC:CtxOk G) (H:Le π τ) {keep:List Nat} {N d:Nat} {o:Oper} (hd:o.dst=some d) (hN:d < N) {v:V} {ob:Option Blk} (h:addA G keep π d o.type o.op=some (v,ob)) (hf:ob≠none->Fresh d τ) :
  ∃ τ',stepA G keep N τ o=some τ'/\Added d v ob τ τ':=by
 unfold addA at h
 unfold stepA
 simp only [hd,hN,if_true]
 split at h
 ·rename_i x e
  simp only [e]
  split at h
  ·rename_i v' hv
   simp only [opd_mono H hv]
   unfold addAsg at h
   unfold asgA
   split at h
   ·rename_i s off len
    split at h
    ·rename_i hc
     simp only [Option.some.injEq,Prod.mk.injEq] at h
     obtain ⟨rfl,rfl⟩:=h
     simp only [if_pos hc]
     exact ⟨_,rfl,added_put d _ τ⟩
    ·cases h
   ·split at h
    ·cases h
    ·rename_i hne
     simp only [Option.some.injEq,Prod.mk.injEq] at h
     obtain ⟨rfl,rfl⟩:=h
     refine ⟨_,?_,added_put d _ τ⟩
     simp only
   ·rename_i n1 n2
    simp only [Option.some.injEq,Prod.mk.injEq] at h
    obtain ⟨rfl,rfl⟩:=h
    refine ⟨_,?_,added_put d _ τ⟩
    split
    ·exact absurd rfl (n1 _ _ _)
    ·exact absurd rfl (n2 _ _)
    ·rfl
  ·cases h
 ·cases h
 ·cases h
 ·rename_i t x k ok e
  simp only [e]
  split at h
  ·rename_i p q kx h1 h2
   simp only [opd_mono H h1,opd_mono H h2]
   split at h
   ·rename_i v' hv
    simp only [Option.some.injEq,Prod.mk.injEq] at h
    obtain ⟨rfl,rfl⟩:=h
    simp only [lookMap_mono H hv]
    exact ⟨_,rfl,added_put d _ τ⟩
   ·cases h
  ·cases h
 ·cases h
 ·cases h
 ·rename_i e
  simp only [e]
  split at h
  ·rename_i ti hti
   simp only [Option.some.injEq,Prod.mk.injEq] at h
   obtain ⟨rfl,rfl⟩:=h
   exact ⟨_,by simp only [allocA,hti],added_mk (hf (by simp)) _ _⟩
  ·simp at h
 ·rename_i e
  simp only [e]
  split at h
  ·rename_i hps
   simp only [parts_mono H hps]
   unfold addBs0 at h
   unfold bs0A
   split at h
   ·rename_i e0; (try simp only [e0])
    split at h
    ·rename_i ti e1; (try simp only [e1])
     split at h
     ·rename_i hc
      simp only [Option.some.injEq,Prod.mk.injEq] at h
      obtain ⟨rfl,rfl⟩:=h
      rw [if_pos hc]
      exact ⟨_,rfl,added_put d _ τ⟩
     ·cases h
    ·cases h
   ·cases h
  ·rename_i ps hne hps
   simp only [parts_mono H hps]
   unfold addBs at h
   split at h
   ·cases h
   rename_i hdeep
   unfold bsX
   rw [if_neg hdeep]
   unfold bsA
   split at h
   ·rename_i e0; (try simp only [e0])
    split at h
    ·rename_i ti e1; (try simp only [e1])
     split at h
     ·rename_i ys e2
      simp only [elemsA_mono H e2]
      split at h
      ·rename_i hc
       simp only [Option.some.injEq,Prod.mk.injEq] at h
       obtain ⟨rfl,rfl⟩:=h
       simp only [if_pos hc]
       exact ⟨_,rfl,added_mk (hf (by simp)) _ _⟩
      ·simp at h
     ·simp at h
    ·simp at h
   ·simp at h
  ·simp at h
 ·rename_i e
  simp only [e]
  split at h
  ·rename_i h1 h2
   simp only [opd_mono H h1,opd_mono H h2]
   split at h
   ·rename_i h3 h4
    (try simp only [h3,h4])
    unfold addMk at h
    unfold mkA
    split at h
    ·rename_i e0; (try simp only [e0])
     split at h
     ·rename_i ti e1; (try simp only [e1])
      split at h
      ·rename_i hc
       simp only [Option.some.injEq,Prod.mk.injEq] at h
       obtain ⟨rfl,rfl⟩:=h
       rw [if_pos hc]
       exact ⟨_,rfl,added_mk (hf (by simp)) _ _⟩
      ·simp at h
     ·simp at h
    ·simp at h
   ·simp at h
  ·simp at h
 ·rename_i args ats e
  simp only [e]
  split at h
  ·rename_i x y t t' e1 e2
   simp only [e1,e2]
   split at h
   ·rename_i htt
    simp only [if_pos htt]
    split at h
    ·rename_i xv yy hx hy
     simp only [opd_mono H hx,opd_mono H hy]
     unfold addApp at h
     unfold appA
     split at h
     ·rename_i e3; (try simp only [e3])
      split at h
      ·rename_i ti e4; (try simp only [e4])
       split at h
       ·rename_i ys hys
        simp only [srcA_mono H hys]
        split at h
        ·rename_i xs hxs
         simp only [dstA_none hxs]
         split at h
         ·rename_i hc
          simp only [Option.some.injEq,Prod.mk.injEq] at h
          obtain ⟨rfl,rfl⟩:=h
          simp only [if_pos hc]
          exact ⟨_,rfl,added_mk (hf (by simp)) _ _⟩
         ·cases h
        ·cases h
       ·cases h
      ·cases h
     ·cases h
    ·cases h
   ·cases h
  ·cases h
 ·rename_i e
  simp only [e]
  split at h
  ·rename_i h1 h2
   simp only [opd_mono H h1,opds_mono H h2]
   exact addCall_step hC H h hf
  ·simp at h
 ·rename_i n1 n2 n3 n4 nr ne n5 n6 n7 n8 n9
  split at h
  ·rename_i u hp
   simp only [Option.some.injEq,Prod.mk.injEq] at h
   obtain ⟨rfl,rfl⟩:=h
   split
   ·rename_i e; exact absurd e (n1 _)
   ·rename_i e; exact absurd e (n5 _)
   ·rename_i e; exact absurd e (n2 _ _)
   ·rename_i e; exact absurd e (n6 _ _ _)
   ·rename_i src dst x e
    rw [e] at hp
    have hm:=popA_mono H hp
    obtain ⟨q,k,n,hx⟩:∃ q k n,opd τ x=some (.fv q (.int k n)):=by
     unfold popA at hm
     simp only at hm
     split at hm
     ·exact ⟨_,_,_,‹_›⟩
     ·cases hm
    simp only [hx,hm]
    exact ⟨_,rfl,added_put d _ τ⟩
   ·rename_i t x e
    rw [e] at hp
    have hm:=popA_mono H hp
    split
    ·rename_i s off hx
     exfalso
     unfold popA at hm
     simp only [hx,popt] at hm
     split at hm
     ·rw [subsl_ptr] at hm; cases hm
     ·cases hm
    ·simp only [hm]
     exact ⟨_,rfl,added_put d _ τ⟩
   ·rename_i e; exact absurd e (nr _ _)
   ·rename_i e; exact absurd e (ne _)
   ·rename_i e; exact absurd e (n3 _ _)
   ·rename_i e; exact absurd e (n4 _ _ _ _)
   ·rename_i e; exact absurd e (n7 _ _ _)
   ·rename_i e; exact absurd e (n8 _ _)
   ·rename_i e; exact absurd e (n9 _ _ _)
   ·simp only [popA_mono H hp]
    exact ⟨_,rfl,added_put d _ τ⟩
  ·simp at h
end
def depMask (acc:List Nat) (o:Oper):Nat:=o.after.toList.foldr (fun e m=>if Region.binds .any e then 2 ^ e.on ||| (acc.getD e.on 0 ||| m) else m) 0
def depTab:List Oper->List Nat->List Nat
 | [],acc=>acc
 | o :: r,acc=>depTab r (acc++[depMask acc o])
theorem depMask_sound {acc:List Nat} {o:Oper} {x:Nat} (h:(depMask acc o).testBit x=true):∃ e∈o.after.toList,Region.binds .any e=true/\(x=e.on\/(acc.getD e.on 0).testBit x=true):=by
 unfold depMask at h
 generalize o.after.toList=l at h ⊢
 induction l with
 | nil=>simp at h
 | cons e r ih =>
  simp only [List.foldr_cons] at h
  split at h
  ·rename_i hb
   simp only [Nat.testBit_or,Bool.or_eq_true,Nat.testBit_two_pow,decide_eq_true_eq] at h
   rcases h with h | h | h
   ·exact ⟨e,by simp,hb,.inl h.symm⟩
   ·exact ⟨e,by simp,hb,.inr h⟩
   ·obtain ⟨e',h1,h2⟩:=ih h; exact ⟨e',by simp [h1],h2⟩
  ·obtain ⟨e',h1,h2⟩:=ih h; exact ⟨e',by simp [h1],h2⟩
def DepOk (pre:List Oper) (acc:List Nat):Prop:=acc.length=pre.length/\∀ i o,pre[i]? = some o->∀ x,(acc.getD i 0).testBit x=true->∃ e∈o.after.toList,Region.binds .any e=true/\(x=e.on\/(acc.getD e.on 0).testBit x=true)
theorem depTab_sound:∀ (l pre:List Oper) (acc:List Nat),DepOk pre acc->DepOk (pre++l) (depTab l acc)
 | [],pre,acc,h=>by simpa [depTab] using h
 | o :: r,pre,acc,h=>by
  have hmore:∀ j x,(acc.getD j 0).testBit x=true->((acc++[depMask acc o]).getD j 0).testBit x=true:=fun j x hx=>by
   by_cases hj:j < acc.length
   ·simpa [List.getD_eq_getElem?_getD,List.getElem?_append_left hj] using hx
   ·simp [List.getD_eq_getElem?_getD,List.getElem?_eq_none (Nat.le_of_not_lt hj)] at hx
  have:=depTab_sound r (pre++[o]) (acc++[depMask acc o]) ⟨by simp [h.1],fun i p hp x hx=>by
   by_cases hi:i < pre.length
   ·have hp':pre[i]? = some p:=by simpa [List.getElem?_append_left hi] using hp
    have hx':(acc.getD i 0).testBit x=true:=by
     have hi':i < acc.length:=by rw [h.1]; exact hi
     simpa [List.getD_eq_getElem?_getD,List.getElem?_append_left hi'] using hx
    obtain ⟨e,h1,h2,h3⟩:=h.2 i p hp' x hx'
    exact ⟨e,h1,h2,h3.imp id (hmore _ _)⟩
   ·have hi2:i=pre.length:=by
     have:=(List.getElem?_eq_some_iff.1 hp).1
     simp at this; omega
    subst hi2
    simp at hp
    subst hp
    have hx':(depMask acc o).testBit x=true:=by
     simpa [List.getD_eq_getElem?_getD,<-h.1] using hx
    obtain ⟨e,h1,h2,h3⟩:=depMask_sound hx'
    exact ⟨e,h1,h2,h3.imp id (hmore _ _)⟩⟩
  simpa [depTab] using this
abbrev Plan:=List (List Nat×List Nat)
def dsts (ops:List Oper) (n:Nat):List Nat:=(ops.take n).map fun o=>o.dst.getD 0
def makers (ops:List Oper) (n:Nat):List Nat:=((ops.take n).filter fun o=>maker o.op).map fun o=>o.dst.getD 0
def allI {α:Type} (p:Nat->α->Bool):Nat->List α->Bool
 | _,[]=>true
 | i,x :: r=>p i x&&allI p (i+1) r
theorem allI_get {α:Type} {p:Nat->α->Bool}:∀ {l:List α} {k:Nat},allI p k l=true->∀ i x,l[i]? = some x->p (k+i) x=true
 | [],k,h,i,x,hx=>by simp at hx
 | y :: r,k,h,i,x,hx=>by
  simp only [allI,Bool.and_eq_true] at h
  cases i with
  | zero=>simp only [List.getElem?_cons_zero,Option.some.injEq] at hx; subst hx; exact h.1
  | succ i=>have:=allI_get h.2 i x (by simpa using hx); rwa [show k+1+i=k+(i+1) from by omega] at this
def over1 (o:Oper) (e:List Nat×List Nat):Bool:=o.guard.isNone&&!maker o.op&&(match o.dst with | some d=>e.1.contains d | none=>false)
def overAt (ops:List Oper) (pl:Plan) (j:Nat):Bool :=
 match ops[j]?,pl[j]? with
 | some o,some e=>over1 o e
 | _,_=>false
def dstsP:List Oper->Plan->List Nat
 | o :: r,e :: pl=>if over1 o e=true then dstsP r pl else o.dst.getD 0 :: dstsP r pl
 | _,_=>[]
theorem mem_dstsP:∀ {ops:List Oper} {pl:Plan} {i d:Nat} {o:Oper} {e:List Nat×List Nat},ops[i]? = some o->pl[i]? = some e->o.dst=some d->over1 o e=false->d∈dstsP ops pl
 | o :: r,e :: pl,i,d,o',e',ho,he,hd,hov=>by
  unfold dstsP
  cases i with
  | zero =>
   simp only [List.getElem?_cons_zero,Option.some.injEq] at ho he
   subst ho; subst he
   rw [if_neg (by simp [hov]),hd]
   exact List.mem_cons_self
  | succ i =>
   have:=mem_dstsP (ops:=r) (pl:=pl) (i:=i) (by simpa using ho) (by simpa using he) hd hov
   split
   ·exact this
   ·exact List.mem_cons_of_mem _ this
 | [],_,i,d,o',e',ho,_,_,_=>by simp at ho
 | _ :: _,[],i,d,o',e',_,he,_,_=>by simp at he
def planOkM (ops:List Oper) (pl:Plan) (m:Nat):Bool :=
 let D:=depTab ops []
 let n:=pl.length
 decide (n<=ops.length)
 && allI (fun i o=>o.after.toList.all fun e=>!Region.binds .any e||decide (e.on < i)) 0 ops
 && allI (fun i o=>o.dst.isSome&&allI (fun j p=>decide (i=j)||!(o.dst.getD 0==p.dst.getD 0)) 0 (ops.take n)) 0 (ops.take n)
 && allI (fun i e=>allI (fun j p=>(!(e.1.contains (p.dst.getD 0))||(D.getD i 0).testBit j||(overAt ops pl j&&(decide (i=j)||(D.getD j 0).testBit i)))&&(!maker p.op||(D.getD i 0).testBit j||decide (i=j)||e.2.contains (p.dst.getD 0))) 0 (ops.take n)) 0 pl
 && allI (fun i d=>decide (i < m)||((List.range i).all fun j=>d.testBit j)) 0 D
def planOk (ops:List Oper) (pl:Plan):Bool:=planOkM ops pl pl.length
structure PlanOk (ops:List Oper) (pl:Plan) (D:List Nat):Prop where
 len:pl.length<=ops.length
 dep:∀ i o,ops[i]? = some o->∀ x,(D.getD i 0).testBit x=true->∃ e∈o.after.toList,Region.binds .any e=true/\(x=e.on\/(D.getD e.on 0).testBit x=true)
 back:∀ i o,ops[i]? = some o->∀ e∈o.after.toList,Region.binds .any e=true->e.on < i
 dst:∀ i o,i < pl.length->ops[i]? = some o->∃ d,o.dst=some d
 inj:∀ i j o p,i < pl.length->j < pl.length->ops[i]? = some o->ops[j]? = some p->o.dst=p.dst->i=j
 sees:∀ i j (e:List Nat×List Nat) p d,pl[i]? = some e->j < pl.length->ops[j]? = some p->p.dst=some d->d∈e.1->(D.getD i 0).testBit j=true\/(overAt ops pl j=true/\(i=j\/(D.getD j 0).testBit i=true))
 hides:∀ i j (e:List Nat×List Nat) p d,pl[i]? = some e->j < pl.length->ops[j]? = some p->p.dst=some d->maker p.op=true->(D.getD i 0).testBit j=true\/i=j\/d∈e.2
 tail:∀ i,pl.length < i->i < ops.length->∀ j,j < i->(D.getD i 0).testBit j=true
theorem take_get {α:Type} {l:List α} {n i:Nat} {x:α} (hi:i < n) (h:l[i]? = some x):(l.take n)[i]? = some x:=by
 rw [List.getElem?_take,if_pos hi]; exact h
theorem depTab_length:∀ (l:List Oper) (acc:List Nat),(depTab l acc).length=acc.length+l.length
 | [],acc=>by simp [depTab]
 | o :: r,acc=>by simp only [depTab,depTab_length r,List.length_append,List.length_cons,List.length_nil]; omega
theorem planOkM_tail {ops:List Oper} {pl:Plan} {m:Nat} (h:planOkM ops pl m=true):∀ i,m<=i->i < ops.length->∀ j,j < i->((depTab ops []).getD i 0).testBit j=true:=fun i hi hi2 j hj=>by
 simp only [planOkM,Bool.and_eq_true,decide_eq_true_eq] at h
 have hD:=depTab_sound ops [] [] ⟨rfl,by simp⟩
 simp only [List.nil_append] at hD
 have hlt:i < (depTab ops []).length:=by rw [hD.1]; exact hi2
 have:=allI_get h.2 i _ (List.getElem?_eq_getElem hlt)
 simp only [Nat.zero_add,Bool.or_eq_true,decide_eq_true_eq,List.all_eq_true,List.mem_range] at this
 rcases this with h | h
 ·omega
 ·simpa [List.getD_eq_getElem?_getD,List.getElem?_eq_getElem hlt] using h j hj
theorem planOkM_sound {ops:List Oper} {pl:Plan} {m:Nat} (h:planOkM ops pl m=true) (hm:m<=pl.length+1):PlanOk ops pl (depTab ops []):=by
 have htail:=planOkM_tail h
 simp only [planOkM,Bool.and_eq_true,decide_eq_true_eq] at h
 obtain ⟨⟨⟨⟨h1,h2⟩,h3⟩,h4⟩,h5⟩:=h
 have hD:=depTab_sound ops [] [] ⟨rfl,by simp⟩
 simp only [List.nil_append] at hD
 refine { len:=h1,dep:=hD.2,back:=fun i o ho e he hb=>?_,dst:=fun i o hi ho=>?_,inj:=fun i j o p hi hj ho hp he=>?_,sees:=fun i j e p d hi hj hp hd hm=>?_,hides:=fun i j e p d hi hj hp hd hm=>?_,tail:=fun i hi hi2 j hj=>htail i (by omega) hi2 j hj }
 ·have:=allI_get h2 i o ho
  simp only [Nat.zero_add,List.all_eq_true] at this
  have:=this e he
  simpa [hb] using this
 ·have:=allI_get h3 i o (take_get hi ho)
  simp only [Bool.and_eq_true,Option.isSome_iff_exists] at this
  exact this.1
 ·have:=allI_get h3 i o (take_get hi ho)
  simp only [Bool.and_eq_true] at this
  have:=allI_get this.2 j p (take_get hj hp)
  simpa [he] using this
 ·have:=allI_get (allI_get h4 i e hi) j p (take_get hj hp)
  simp only [Nat.zero_add,Bool.and_eq_true,hd,Option.getD_some] at this
  have:=this.1
  simp only [Bool.or_eq_true,Bool.not_eq_true',Bool.and_eq_true,decide_eq_true_eq] at this
  rcases this with (h6 | h6) | h6
  ·rw [List.contains_iff_mem.mpr hm] at h6; simp at h6
  ·exact .inl h6
  ·exact .inr h6
 ·have:=allI_get (allI_get h4 i e hi) j p (take_get hj hp)
  simp only [Nat.zero_add,Bool.and_eq_true,hd,Option.getD_some] at this
  have:=this.2
  simpa [hm,or_assoc] using this
theorem planOk_sound {ops:List Oper} {pl:Plan} (h:planOk ops pl=true):PlanOk ops pl (depTab ops []):=planOkM_sound h (Nat.le_succ _)
def pk (l:List (Nat×V)):List Nat->List (Nat×V)
 | []=>[]
 | t :: r=>match lk t l with
  | some v=>(t,v) :: pk l r
  | none=>pk l r
def rmL {α:Type}:List Nat->List (Nat×α)->List (Nat×α)
 | [],l=>l
 | f :: r,l=>rm f (rmL r l)
theorem lk_pk {l:List (Nat×V)} {k:Nat} {v:V}:∀ {ts:List Nat},lk k (pk l ts)=some v->k∈ts/\lk k l=some v
 | [],h=>by simp [pk,lk] at h
 | t :: r,h=>by
  simp only [pk] at h
  split at h
  ·rename_i u hu
   simp only [lk] at h
   split at h
   ·rename_i e; subst e; simp only [Option.some.injEq] at h; subst h; exact ⟨by simp,hu⟩
   ·have:=lk_pk h; exact ⟨by simp [this.1],this.2⟩
  ·have:=lk_pk h; exact ⟨by simp [this.1],this.2⟩
theorem lk_rmL {α:Type} {l:List (Nat×α)} {k:Nat}:∀ (fs:List Nat),lk k (rmL fs l)=if k∈fs then none else lk k l
 | []=>by simp [rmL]
 | f :: r=>by
  simp only [rmL,lk_rm,lk_rmL r,List.mem_cons]
  by_cases e:k=f<;>simp [e]
def mentAny (fs:List Nat) (v:V):Bool:=fs.any fun f=>ment 5 f v
def blkMent (fs:List Nat):Option Blk->Bool
 | some b=>(bcells b).any (mentAny fs)
 | none=>false
def addO (σ:St):Option (Nat×V×Option Blk)->St
 | some (d,v,some b)=>{ σ with env:=put d v σ.env,blk:=put d b σ.blk }
 | some (d,v,none)=>{ σ with env:=put d v σ.env }
 | none=>σ
def drawA (G:Pg) (keep:List Nat) (N:Nat) (ops:List Oper):Plan->List Oper->St->Option St
 | [],r,σ=>runOps G keep N ops r σ
 | (ts,fs) :: pl,o :: r,σ=>match o.dst with
  | some d=>match guardA ops ⟨pk σ.env ts,[],[]⟩ o with
   | some true=>match addA G keep ⟨pk σ.env ts,rmL fs σ.blk,[]⟩ d o.type o.op with
    | some (v,ob)=>if (mentAny fs v||blkMent fs ob)=false then drawA G keep N ops pl r (addO σ (some (d,v,ob))) else none
    | none=>none
   | some false=>drawA G keep N ops pl r (addO σ (some (d,.tup [],none)))
   | none=>none
  | none=>none
 | _,[],_=>none
def prep (ds ms:List Nat) (σ:St):St:=St.kill ms { σ with env:=rmL ds σ.env,blk:=rmL ms σ.blk }
def afterO (σ:St) (outs:List (Option (Nat×V×Option Blk))):St:=outs.foldl addO σ
theorem addO_tr (σ:St) (o:Option (Nat×V×Option Blk)):(addO σ o).tr=σ.tr:=by
 unfold addO; split<;>rfl
theorem afterO_tr:∀ (outs:List (Option (Nat×V×Option Blk))) (σ:St),(afterO σ outs).tr=σ.tr
 | [],σ=>rfl
 | o :: r,σ=>by
  have:=afterO_tr r (addO σ o)
  rw [show afterO σ (o :: r)=afterO (addO σ o) r from rfl,this,addO_tr]
def StepFact (G:Pg) (keep:List Nat) (ops:List Oper) (σ:St) (o:Oper) (e:List Nat×List Nat) (out:Option (Nat×V×Option Blk)):Prop :=
 ∃ d,o.dst=some d/\match out with
  | none=>guardA ops ⟨pk σ.env e.1,[],[]⟩ o=some false
  | some (d',v,ob)=>d'=d/\mentAny e.2 v=false/\blkMent e.2 ob=false/\((guardA ops ⟨pk σ.env e.1,[],[]⟩ o=some true/\addA G keep ⟨pk σ.env e.1,rmL e.2 σ.blk,[]⟩ d o.type o.op=some (v,ob))\/(guardA ops ⟨pk σ.env e.1,[],[]⟩ o=some false/\v = .tup []/\ob=none))
theorem drawA_outs {G:Pg} {keep:List Nat} {N:Nat} {ops:List Oper}:∀ (pl:Plan) (r:List Oper) (σ σ':St),drawA G keep N ops pl r σ=some σ' ->
  ∃ outs:List (Option (Nat×V×Option Blk)),outs.length=pl.length/\runOps G keep N ops (r.drop pl.length) (afterO σ outs)=some σ' ∧
   ∀ (i:Nat) (e:List Nat×List Nat) (o:Oper) (out:Option (Nat×V×Option Blk)),pl[i]? = some e->r[i]? = some o->outs[i]? = some out->StepFact G keep ops (afterO σ (outs.take i)) o e out
 | [],r,σ,σ',h=>by
  refine ⟨[],rfl,?_,by simp⟩
  simpa [drawA,afterO] using h
 | (ts,fs) :: pl,[],σ,σ',h=>by simp [drawA] at h
 | (ts,fs) :: pl,o :: r,σ,σ',h=>by
  simp only [drawA] at h
  split at h
  ·rename_i d hd
   split at h
   ·rename_i hg
    split at h
    ·rename_i v ob ha
     split at h
     ·rename_i hm
      simp only [Bool.or_eq_false_iff] at hm
      obtain ⟨outs,h1,h2,h3⟩:=drawA_outs pl r _ σ' h
      refine ⟨some (d,v,ob) :: outs,by simp [h1],by simpa [afterO] using h2,fun i e p out hi hp ho=>?_⟩
      cases i with
      | zero =>
       simp only [List.getElem?_cons_zero,Option.some.injEq] at hi hp ho
       subst hi; subst hp; subst ho
       exact ⟨d,hd,rfl,hm.1,hm.2,.inl ⟨hg,ha⟩⟩
      | succ i =>
       have:=h3 i e p out (by simpa using hi) (by simpa using hp) (by simpa using ho)
       simpa [afterO] using this
     ·simp at h
    ·simp at h
   ·rename_i hg
    obtain ⟨outs,h1,h2,h3⟩:=drawA_outs pl r _ σ' h
    refine ⟨some (d,.tup [],none) :: outs,by simp [h1],by simpa [afterO] using h2,fun i e p out hi hp ho=>?_⟩
    cases i with
    | zero =>
     simp only [List.getElem?_cons_zero,Option.some.injEq] at hi hp ho
     subst hi; subst hp; subst ho
     exact ⟨d,hd,rfl,by simp [mentAny,ment],rfl,.inr ⟨hg,rfl,rfl⟩⟩
    | succ i =>
     have:=h3 i e p out (by simpa using hi) (by simpa using hp) (by simpa using ho)
     simpa [afterO] using this
   ·simp at h
  ·simp at h
theorem afterO_env' {σ:St}:∀ {outs:List (Option (Nat×V×Option Blk))} {k:Nat} {v:V},lk k (afterO σ outs).env=some v->(lk k σ.env=some v/\∀ (j:Nat) (u:V) (ob:Option Blk),outs[j]?≠some (some (k,u,ob)))\/∃ (j:Nat) (ob:Option Blk),outs[j]? = some (some (k,v,ob)):=by
 intro outs
 induction outs generalizing σ with
 | nil=>intro k v h; exact .inl ⟨h,fun j u ob=>by simp⟩
 | cons x r ih =>
  intro k v h
  rcases ih (σ:=addO σ x) h with ⟨h,hn⟩ | ⟨j,ob,hj⟩
  ·have hcons:∀ (hx:∀ u ob,x≠some (k,u,ob)),∀ (j:Nat) (u:V) (ob:Option Blk),(x :: r)[j]?≠some (some (k,u,ob)):=fun hx j u ob e=>by
    cases j with
    | zero=>simp only [List.getElem?_cons_zero,Option.some.injEq] at e; exact hx u ob e
    | succ j=>exact hn j u ob (by simpa using e)
   match x,h,hcons with
   | none,h,hcons=>exact .inl ⟨h,hcons (fun u ob e=>by simp at e)⟩
   | some (d,u,none),h,hcons =>
    simp only [addO,lk_put] at h
    split at h
    ·rename_i e; subst e; simp only [Option.some.injEq] at h; subst h; exact .inr ⟨0,none,rfl⟩
    ·rename_i e; exact .inl ⟨h,hcons (fun u ob e2=>by simp only [Option.some.injEq,Prod.mk.injEq] at e2; exact e e2.1.symm)⟩
   | some (d,u,some b),h,hcons =>
    simp only [addO,lk_put] at h
    split at h
    ·rename_i e; subst e; simp only [Option.some.injEq] at h; subst h; exact .inr ⟨0,some b,rfl⟩
    ·rename_i e; exact .inl ⟨h,hcons (fun u ob e2=>by simp only [Option.some.injEq,Prod.mk.injEq] at e2; exact e e2.1.symm)⟩
  ·exact .inr ⟨j+1,ob,by simpa using hj⟩
theorem afterO_blk {σ:St}:∀ {outs:List (Option (Nat×V×Option Blk))} {k:Nat} {b:Blk},lk k (afterO σ outs).blk=some b->lk k σ.blk=some b\/∃ (j:Nat) (v:V),outs[j]? = some (some (k,v,some b)):=by
 intro outs
 induction outs generalizing σ with
 | nil=>intro k v h; exact .inl h
 | cons x r ih =>
  intro k v h
  rcases ih (σ:=addO σ x) h with h | ⟨j,ob,hj⟩
  ·match x,h with
   | none,h=>exact .inl h
   | some (d,u,none),h=>exact .inl h
   | some (d,u,some b),h =>
    simp only [addO,lk_put] at h
    split at h
    ·rename_i e; subst e; simp only [Option.some.injEq] at h; subst h; exact .inr ⟨0,u,rfl⟩
    ·exact .inl h
  ·exact .inr ⟨j+1,ob,by simpa using hj⟩
def On (listed:Array Bool) (i:Nat):Prop:=listed.getD i false=true
def left (n:Nat) (listed:Array Bool):Nat:=((List.range n).filter fun i=>!listed.getD i true).length
theorem filter_less {p q:Nat->Bool} (hpq:∀ x,q x=true->p x=true) {i:Nat} (hp:p i=true) (hq:q i=false):∀ {l:List Nat},i∈l->(l.filter q).length < (l.filter p).length:=by
 have hle:∀ l:List Nat,(l.filter q).length<=(l.filter p).length:=fun l=>by
  induction l with
  | nil=>simp
  | cons x r ih =>
   simp only [List.filter_cons]
   cases hqx:q x with
   | true=>simp [hpq x hqx,ih]
   | false=>cases p x<;>simp<;>omega
 intro l
 induction l with
 | nil=>simp
 | cons x r ih =>
  intro h
  simp only [List.filter_cons]
  rcases List.mem_cons.1 h with e | h
  ·subst e; have:=hle r; simp [hp,hq]; omega
  ·have:=ih h
   cases hqx:q x with
   | true=>simp [hpq x hqx,this]
   | false=>cases p x<;>simp<;>omega
theorem on_set {listed:Array Bool} {n i j:Nat} (hs:listed.size=n) (hi:i < n):On (listed.setIfInBounds i true) j↔j=i\/On listed j:=by
 simp only [On,Array.getD_eq_getD_getElem?,Array.getElem?_setIfInBounds]
 by_cases e:i=j
 ·subst e; simp [hs,hi]
 ·have e':¬ j=i:=fun h=>e h.symm
  simp [e,e']
theorem left_set {n i:Nat} {listed:Array Bool} (hs:listed.size=n) (hi:i < n) (hu:¬ On listed i):left n (listed.setIfInBounds i true) < left n listed:=by
 refine filter_less (i:=i) (fun x hx=>?_) ?_ ?_ (List.mem_range.2 hi)
 ·simp only [Bool.not_eq_true',Array.getD_eq_getD_getElem?,Array.getElem?_setIfInBounds] at hx ⊢
  split at hx
  ·split at hx<;>simp at hx
  ·exact hx
 ·simp only [On,Array.getD_eq_getD_getElem?] at hu ⊢
  have:i < listed.size:=by omega
  simp [this] at hu ⊢; exact hu
 ·simp [Array.getD_eq_getD_getElem?,Array.getElem?_setIfInBounds,hs,hi]
theorem on_of_left {n:Nat} {listed:Array Bool} (hs:listed.size=n) (h:left n listed=0) (i:Nat) (hi:i < n):On listed i:=by
 simp only [left,List.length_eq_zero_iff,List.filter_eq_nil_iff,List.mem_range] at h
 have:=h i hi
 have hi':i < listed.size:=by omega
 simpa [On,Array.getD_eq_getD_getElem?,hi'] using this
theorem ready_mem {ops:Array Oper} {listed:Array Bool} (hs:listed.size=ops.size) {i:Nat} (h:i∈Region.ready .any ops listed) :
  i < ops.size/\¬ On listed i/\∃ o,ops[i]? = some o/\∀ e∈o.after.toList,Region.binds .any e=true->On listed e.on:=by
 simp only [Region.ready,List.mem_filter,List.mem_range,Bool.and_eq_true] at h
 obtain ⟨hi,hu,ha⟩:=h
 refine ⟨hi,?_,ops[i],by simp [hi],fun e he hb=>?_⟩
 ·have hi':i < listed.size:=by omega
  simpa [On,Array.getD_eq_getD_getElem?,hi'] using hu
 ·simp only [Array.getElem?_eq_getElem hi,Option.map_some,Option.getD_some,Array.all_eq_true',Bool.or_eq_true] at ha
  have:=ha e (by simpa using he)
  simpa [hb,On,Array.getD_eq_getD_getElem?] using this
theorem ready_least {ops:Array Oper} {listed:Array Bool} (hs:listed.size=ops.size) (hb:∀ i o,ops[i]? = some o->∀ e∈o.after.toList,Region.binds .any e=true->e.on < i) :
  ∀ i,i < ops.size->¬ On listed i->∃ j,j∈Region.ready .any ops listed:=by
 intro i
 induction i using Nat.strongRecOn with
 | _ i ih =>
  intro hi hu
  by_cases h:∀ j,j < i->On listed j
  ·refine ⟨i,?_⟩
   simp only [Region.ready,List.mem_filter,List.mem_range,Bool.and_eq_true]
   have hi':i < listed.size:=by omega
   refine ⟨hi,by simpa [On,Array.getD_eq_getD_getElem?,hi'] using hu,?_⟩
   simp only [Array.getElem?_eq_getElem hi,Option.map_some,Option.getD_some,Array.all_eq_true',Bool.or_eq_true]
   intro e he
   cases hbd:Region.binds .any e with
   | false=>exact .inl rfl
   | true=>exact .inr (h e.on (hb i _ (Array.getElem?_eq_getElem hi) e (by simpa using he) hbd))
  ·simp only [Classical.not_forall] at h
   obtain ⟨j,hj,hju⟩:=h
   exact ih j hj (by omega) hju
section
variable {C:Base} {G:Pg} {keep:List Nat} {ops:Array Oper} {pl:Plan} {σ0:St} {outs:List (Option (Nat×V×Option Blk))}
structure Tog (ops:List Oper) (pl:Plan) (σ0:St) (outs:List (Option (Nat×V×Option Blk))) (L:Nat->Prop) (τ:St):Prop where
 base:∀ k v,lk k σ0.env=some v->(∃ j,L j/\overAt ops pl j=true/\∃ o,ops[j]? = some o/\o.dst=some k)\/lk k τ.env=some v
 bblk:∀ s b,lk s σ0.blk=some b->lk s τ.blk=some b
 has:∀ j d v ob,L j->outs[j]? = some (some (d,v,ob))->lk d τ.env=some v/\∀ b,ob=some b->lk d τ.blk=some b
 env:∀ k u,lk k τ.env=some u->lk k σ0.env=some u\/∃ j,L j/\∃ ob,outs[j]? = some (some (k,u,ob))
 blk:∀ s b,lk s τ.blk=some b->lk s σ0.blk=some b\/∃ j,L j/\∃ v,outs[j]? = some (some (s,v,some b))
 tr:τ.tr=σ0.tr
theorem PlanOk.lt {ops:List Oper} {pl:Plan} (hp:PlanOk ops pl (depTab ops [])):∀ i x,((depTab ops []).getD i 0).testBit x=true->x < i:=by
 intro i
 induction i using Nat.strongRecOn with
 | _ i ih =>
  intro x hx
  have hl:=depTab_length ops []
  simp only [List.length_nil,Nat.zero_add] at hl
  have hi:i < ops.length:=by
   rcases Nat.lt_or_ge i ops.length with h | h
   ·exact h
   ·rw [List.getD_eq_getElem?_getD,List.getElem?_eq_none (by omega)] at hx
    simp at hx
  have ho:=List.getElem?_eq_getElem hi
  obtain ⟨e,he,hb,hor⟩:=hp.dep i _ ho x hx
  have hlt:=hp.back i _ ho e he hb
  rcases hor with rfl | h
  ·exact hlt
  ·have:=ih e.on hlt x h; omega
theorem tail_sound (hT:TOk G) (hC:CtxOk G) (hp:PlanOk ops.toList pl (depTab ops.toList [])) {Q:Exit->Act->World->Prop} {ro:Option Nat} {rm:Nat} {σ':St}
  : ∀ (r:List Oper) (m fuel:Nat) (listed:Array Bool) {C:Base} {σ:St} {a:Act} {w:World} {μ:Mu} {Fz Fy:Nat->Prop},YOk G C->(∀ M' a' w' μ' Fz' Fy',More C M'->Sim (C.withM M') σ' a' w' μ' Fz' Fy'->Q .normal a' w') ->
  ops.toList.drop m=r->pl.length<=m->m<=ops.size->listed.size=ops.size->(∀ i,i < ops.size->(On listed i↔i < m))->(∀ i,On listed i->∀ x,((depTab ops.toList []).getD i 0).testBit x=true->On listed x)->left ops.size listed<=fuel->Sim C σ a w μ Fz Fy ->
  runOps G keep C.N ops.toList r σ=some σ'->wpAnyIn (FR ro) rm G.P .any ops Q fuel listed a w
 | [],m,fuel,listed,C,σ,a,w,μ,Fz,Fy,hY,hQ,hr,hm,hm2,hs,hl,hcl,hf,h,hx=>by
  have hmn:ops.size<=m:=by
   have:=congrArg List.length hr; simp at this; omega
  simp only [runOps,Option.some.injEq] at hx
  subst hx
  have hno:Region.ready .any ops listed=[]:=by
   cases hrd:Region.ready .any ops listed with
   | nil=>rfl
   | cons i l =>
    obtain ⟨h1,h2,_⟩:=ready_mem hs (i:=i) (by simp [hrd])
    exact absurd ((hl i h1).2 (by omega)) h2
  cases fuel with
  | zero=>exact ⟨hno,hQ C.M _ _ _ _ _ (More.refl C) h⟩
  | succ fuel=>exact ⟨fun _=>hQ C.M _ _ _ _ _ (More.refl C) h,fun i hi=>by simp [hno] at hi⟩
 | o :: r,m,fuel,listed,C,σ,a,w,μ,Fz,Fy,hY,hQ,hr,hm,hm2,hs,hl,hcl,hf,h,hx=>by
  have hmlt:m < ops.size:=by
   have:=congrArg List.length hr; simp at this; omega
  have hom:ops[m]? = some o:=by
   have:(ops.toList.drop m)[0]? = some o:=by rw [hr]; rfl
   simpa [List.getElem?_drop] using this
  have hr':ops.toList.drop (m+1)=r:=by
   have:ops.toList.drop (m+1)=(ops.toList.drop m).drop 1:=by rw [List.drop_drop]
   rw [this,hr]; rfl
  have hum:¬ On listed m:=fun e=>by have:=(hl m hmlt).1 e; omega
  cases fuel with
  | zero=>exact absurd (on_of_left hs (by omega) m hmlt) hum
  | succ fuel =>
   refine ⟨fun hrd=>?_,fun i hi=>?_⟩
   ·obtain ⟨j,hj⟩:=ready_least hs (fun i o ho=>hp.back i o (by simpa using ho)) m hmlt hum
    rw [hrd] at hj; simp at hj
   ·obtain ⟨h1,h2,oi,ho,hon⟩:=ready_mem hs hi
    have him:i=m:=by
     by_cases e:i < m
     ·exact absurd ((hl i h1).2 e) h2
     ·by_cases e2:i=m
      ·exact e2
      ·exfalso
       have hd:=hp.tail i (by omega) (by simpa using h1) m (by omega)
       obtain ⟨e',he',hb,hor⟩:=hp.dep i oi (by simpa using ho) m hd
       have:=hon e' he' hb
       rcases hor with h3 | h3
       ·rw [<-h3] at this; exact hum this
       ·exact hum (hcl _ this m h3)
    subst him
    have hcl':∀ j,On (listed.setIfInBounds i true) j->∀ x,((depTab ops.toList []).getD j 0).testBit x=true->On (listed.setIfInBounds i true) x:=fun j hj x hx=>by
     rw [on_set hs h1] at hj ⊢
     rcases hj with rfl | hj
     ·obtain ⟨e',he',hb,hor⟩:=hp.dep j oi (by simpa using ho) x hx
      have:=hon e' he' hb
      rcases hor with rfl | h3
      ·exact .inr this
      ·exact .inr (hcl _ this x h3)
     ·exact .inr (hcl j hj x hx)
    have hl':∀ j,j < ops.size->(On (listed.setIfInBounds i true) j↔j < i+1):=fun j hj=>by
     rw [on_set hs h1,hl j hj]; omega
    have hlf:=left_set hs h1 h2
    have key:∀ {M1:Nat->Prop} {σ1:St} {a1:Act} {w1:World} {μ1:Mu} {Fz1 Fy1:Nat->Prop},More C M1->Sim (C.withM M1) σ1 a1 w1 μ1 Fz1 Fy1->runOps G keep C.N ops.toList r σ1=some σ'->wpAnyIn (FR ro) rm G.P .any ops Q fuel (listed.setIfInBounds i true) a1 w1 :=
     fun {M1} _ _ _ _ _ _ hM h1' hx'=>tail_sound hT hC hp r (i+1) fuel _ (hY.withM M1) (fun M' a' w' μ' Fz' Fy' hM' h'=>hQ M' _ _ _ _ _ (hM.trans hM') h') hr' (by omega) (by omega) (by simpa using hs) hl' hcl' (by omega) h1' hx'
    have hoi:oi=o:=by rw [hom] at ho; simpa using ho.symm
    subst hoi
    unfold wpOpIn
    simp only [ho]
    simp only [runOps] at hx
    split at hx
    ·rename_i hg
     split at hx
     ·rename_i σ1 hst
      rw [if_pos (guardA_sound h hg)]
      exact stepX_sound hT hC hY h hst fun M' a' w' μ' Fz' Fy' hM h'=>key hM h' hx
     ·simp at hx
    ·rename_i hg
     rw [if_neg (by simp [guardA_sound h hg])]
     exact ⟨fun _ _=>trivial,key (M1:=C.M) (More.refl C) (h.skip' oi.dst) hx⟩
    ·simp at hx
def WeakFact (ops:List Oper) (pl:Plan) (i:Nat) (o:Oper) (e:List Nat×List Nat) (out:Option (Nat×V×Option Blk)):Prop :=
 ∃ d,o.dst=some d/\match out with
  | none=>overAt ops pl i=false
  | some (d',v,ob)=>d'=d/\mentAny e.2 v=false/\blkMent e.2 ob=false/\(ob≠none->maker o.op=true)
theorem over_writes (ho1:outs.length=pl.length) (hw3:∀ (i:Nat) (e:List Nat×List Nat) (o:Oper) (out:Option (Nat×V×Option Blk)),pl[i]? = some e->ops[i]? = some o->outs[i]? = some out->WeakFact ops.toList pl i o e out):∀ (j:Nat) (o:Oper) (k:Nat),overAt ops.toList pl j=true->ops.toList[j]? = some o->o.dst=some k->j < pl.length/\∃ v ob,outs[j]? = some (some (k,v,ob)):=fun j o k hov ho hk=>by
  have hov0:=hov
  unfold overAt at hov
  rw [ho] at hov
  cases hpj:pl[j]? with
  | none=>rw [hpj] at hov; simp at hov
  | some e =>
   rw [hpj] at hov
   simp only [over1,Bool.and_eq_true,Option.isNone_iff_eq_none] at hov
   have hjl:j < pl.length:=(List.getElem?_eq_some_iff.1 hpj).1
   have hjo:j < outs.length:=by omega
   have hst:=hw3 j e o outs[j] hpj (by simpa using ho) (List.getElem?_eq_getElem hjo)
   refine ⟨hjl,?_⟩
   rw [List.getElem?_eq_getElem hjo]
   generalize outs[j]=x at hst
   obtain ⟨d,hd,hrest⟩:=hst
   have hdk:d=k:=by rw [hk] at hd; simpa using hd.symm
   match x,hrest with
   | none,hg=>simp only at hg; rw [hov0] at hg; simp at hg
   | some (d',v,ob),hr =>
    simp only at hr
    exact ⟨v,ob,by rw [hr.1,hdk]⟩
theorem end_sound (hT:TOk G) (hC:CtxOk G) (hp:PlanOk ops.toList pl (depTab ops.toList [])) {Q:Exit->Act->World->Prop} {ro:Option Nat} {rm:Nat} {σ':St} {m0:Nat}
  (hY:YOk G C) (hQ:∀ M' a' w' μ' Fz' Fy',More C M'->Sim (C.withM M') σ' a' w' μ' Fz' Fy'->Q .normal a' w')
  (ho1:outs.length=pl.length) (hm0:pl.length<=m0) (hm1:m0<=ops.size) {σe:St} (hσe:Le σe (afterO σ0 outs)) (htr:σe.tr=σ0.tr) (ho2:runOps G keep C.N ops.toList (ops.toList.drop m0) σe=some σ')
  (hw3:∀ (i:Nat) (e:List Nat×List Nat) (o:Oper) (out:Option (Nat×V×Option Blk)),pl[i]? = some e->ops[i]? = some o->outs[i]? = some out->WeakFact ops.toList pl i o e out):∀ (fuel:Nat) (listed:Array Bool) {τ:St} {a:Act} {w:World} {μ:Mu} {Fz Fy:Nat->Prop},listed.size=ops.size->(∀ i,On listed i->∀ x,((depTab ops.toList []).getD i 0).testBit x=true->On listed x) ->
   (∀ i,pl.length<=i->i < ops.size->(On listed i↔i < m0))->left ops.size listed<=fuel->Sim C τ a w μ Fz Fy->Tog ops.toList pl σ0 outs (fun i=>i < pl.length/\On listed i) τ->(∀ i,i < pl.length->On listed i)->wpAnyIn (FR ro) rm G.P .any ops Q fuel listed a w:=by
 have hover:=over_writes (ops:=ops) ho1 hw3
 intro fuel listed τ a w μ Fz Fy hs hcl hno hf h ht hall
 refine tail_sound hT hC hp _ m0 fuel listed hY hQ rfl hm0 hm1 hs (fun i hi=>?_) hcl hf (h.sub (fun k v hk=>?_) (fun s b hb=>?_) (by rw [htr,ht.tr])) ho2
 ·by_cases e:i < pl.length
  ·exact ⟨fun _=>by omega,fun _=>hall i e⟩
  ·exact hno i (by omega) hi
 ·have hk:=hσe.1 k v hk
  rcases afterO_env' hk with ⟨h1,hno1⟩ | ⟨j,ob,hj⟩
  ·rcases ht.base k v h1 with ⟨j,_,hov,o,hjo,hjd⟩ | h2
   ·obtain ⟨_,v2,ob2,h3⟩:=hover j o k hov hjo hjd
    exact absurd h3 (hno1 j v2 ob2)
   ·exact h2
  ·have hjl:j < pl.length:=by rw [<-ho1]; exact (List.getElem?_eq_some_iff.1 hj).1
   exact (ht.has j k v ob ⟨hjl,hall j hjl⟩ hj).1
 ·have hb:=hσe.2 s b hb
  rcases afterO_blk hb with h1 | ⟨j,v,hj⟩
  ·exact ht.bblk s b h1
  ·have hjl:j < pl.length:=by rw [<-ho1]; exact (List.getElem?_eq_some_iff.1 hj).1
   exact (ht.has j s v (some b) ⟨hjl,hall j hjl⟩ hj).2 b rfl
def AtFact (G:Pg) (keep:List Nat) (ops:List Oper) (σ:St) (o:Oper) (e:List Nat×List Nat) (out:Option (Nat×V×Option Blk)):Prop :=
 match out with
  | none=>guardA ops ⟨pk σ.env e.1,[],[]⟩ o=some false
  | some (d,v,ob)=>(guardA ops ⟨pk σ.env e.1,[],[]⟩ o=some true/\addA G keep ⟨pk σ.env e.1,rmL e.2 σ.blk,[]⟩ d o.type o.op=some (v,ob))\/(guardA ops ⟨pk σ.env e.1,[],[]⟩ o=some false/\v = .tup []/\ob=none)
theorem front_gen (hT:TOk G) (hC:CtxOk G) (hp:PlanOk ops.toList pl (depTab ops.toList [])) {Q:Exit->Act->World->Prop} {ro:Option Nat} {rm:Nat} {σ':St} {m0:Nat} (W:Nat->Prop)
  (hY:YOk G C) (hQ:∀ M' a' w' μ' Fz' Fy',More C M'->Sim (C.withM M') σ' a' w' μ' Fz' Fy'->Q .normal a' w') (hN:∀ (i:Nat) (o:Oper) (d:Nat),i < pl.length->ops[i]? = some o->o.dst=some d->d < C.N)
  (ho1:outs.length=pl.length) (hw3:∀ (i:Nat) (e:List Nat×List Nat) (o:Oper) (out:Option (Nat×V×Option Blk)),pl[i]? = some e->ops[i]? = some o->outs[i]? = some out->WeakFact ops.toList pl i o e out)
  (hEnd:∀ (fuel:Nat) (listed:Array Bool) {τ:St} {a:Act} {w:World} {μ:Mu} {Fz Fy:Nat->Prop},listed.size=ops.size->(∀ i,On listed i->∀ x,((depTab ops.toList []).getD i 0).testBit x=true->On listed x) ->
   (∀ i,pl.length<=i->i < ops.size->(On listed i↔i < m0))->left ops.size listed<=fuel->Sim C τ a w μ Fz Fy->Tog ops.toList pl σ0 outs (fun i=>i < pl.length/\On listed i) τ->(∀ i,i < pl.length->On listed i)->wpAnyIn (FR ro) rm G.P .any ops Q fuel listed a w)
  (ho3:∀ (i:Nat) (e:List Nat×List Nat) (o:Oper) (out:Option (Nat×V×Option Blk)),W i->pl[i]? = some e->ops[i]? = some o->outs[i]? = some out ->
   ∃ outs' σx,(outs'=outs.take i\/(outs'=outs/\(∀ j,overAt ops.toList pl j=false)/\maker o.op=false))/\Le σx (afterO σ0 outs')/\AtFact G keep ops.toList σx o e out)
  (hn1:∀ (i:Nat) (o:Oper) (d:Nat),i < pl.length->ops[i]? = some o->o.dst=some d->overAt ops.toList pl i=false->lk d σ0.env=none)
  (hn2:∀ (i:Nat) (o:Oper) (d:Nat),W i->i < pl.length->ops[i]? = some o->o.dst=some d->maker o.op=true->Fresh d σ0)
  (hE:∀ (fuel:Nat) (listed:Array Bool) {τ:St} {a:Act} {w:World} {μ:Mu} {Fz Fy:Nat->Prop} (i:Nat),listed.size=ops.size->(∀ i,On listed i->∀ x,((depTab ops.toList []).getD i 0).testBit x=true->On listed x) ->
   (∀ i,pl.length<=i->i < ops.size->(On listed i↔i < m0))->left ops.size (listed.setIfInBounds i true)<=fuel->Sim C τ a w μ Fz Fy->Tog ops.toList pl σ0 outs (fun i=>i < pl.length/\On listed i) τ ->
   (∃ j,j < pl.length/\¬ On listed j)->i∈Region.ready .any ops listed->(∀ x,((depTab ops.toList []).getD i 0).testBit x=true->On listed x)->pl.length<=i->i < ops.size->wpOpIn (FR ro) rm G.P ops Q i (wpAnyIn (FR ro) rm G.P .any ops Q fuel (listed.setIfInBounds i true)) a w) :
  ∀ (fuel:Nat) (listed:Array Bool) {τ:St} {a:Act} {w:World} {μ:Mu} {Fz Fy:Nat->Prop},listed.size=ops.size->(∀ i,On listed i->∀ x,((depTab ops.toList []).getD i 0).testBit x=true->On listed x) ->
  (∀ i,pl.length<=i->i < ops.size->(On listed i↔i < m0))->(∀ i,i < pl.length->On listed i\/W i)->left ops.size listed<=fuel->Sim C τ a w μ Fz Fy->Tog ops.toList pl σ0 outs (fun i=>i < pl.length/\On listed i) τ->wpAnyIn (FR ro) rm G.P .any ops Q fuel listed a w:=by
 intro fuel
 have hpn:pl.length<=ops.size:=by simpa using hp.len
 have hover:=over_writes (ops:=ops) ho1 hw3
 induction fuel with
 | zero =>
  intro listed τ a w μ Fz Fy hs hcl hno hW hf h ht
  exact hEnd 0 listed hs hcl hno hf h ht fun i hi=>on_of_left hs (by omega) i (by omega)
 | succ fuel ih =>
  intro listed τ a w μ Fz Fy hs hcl hno hW hf h ht
  by_cases hall:∀ i,i < pl.length->On listed i
  ·exact hEnd (fuel+1) listed hs hcl hno hf h ht hall
  simp only [Classical.not_forall] at hall
  obtain ⟨j0,hj0,hj0u⟩:=hall
  refine ⟨fun hrd=>?_,fun i hi=>?_⟩
  ·obtain ⟨j,hj⟩:=ready_least hs (fun i o ho=>hp.back i o (by simpa using ho)) j0 (by omega) hj0u
   rw [hrd] at hj; simp at hj
  ·obtain ⟨h1,h2,oi,ho,hon⟩:=ready_mem hs hi
   have hdep:∀ x,((depTab ops.toList []).getD i 0).testBit x=true->On listed x:=fun x hx=>by
    obtain ⟨e',he',hb,hor⟩:=hp.dep i oi (by simpa using ho) x hx
    have:=hon e' he' hb
    rcases hor with rfl | h3
    ·exact this
    ·exact hcl _ this x h3
   have hlf:=left_set hs h1 h2
   by_cases hip:pl.length<=i
   ·exact hE fuel listed i hs hcl hno (by omega) h ht ⟨j0,hj0,hj0u⟩ hi hdep hip h1
   simp only [Nat.not_le] at hip
   have hcl':∀ j,On (listed.setIfInBounds i true) j->∀ x,((depTab ops.toList []).getD j 0).testBit x=true->On (listed.setIfInBounds i true) x:=fun j hj x hx=>by
    rw [on_set hs h1] at hj ⊢
    rcases hj with rfl | hj
    ·exact .inr (hdep x hx)
    ·exact .inr (hcl j hj x hx)
   have hno':∀ j,pl.length<=j->j < ops.size->(On (listed.setIfInBounds i true) j↔j < m0):=fun j hj hj2=>by
    rw [on_set hs h1,<-hno j hj hj2]
    exact ⟨fun hx=>hx.resolve_left (by omega),.inr⟩
   have hW':∀ j,j < pl.length->On (listed.setIfInBounds i true) j\/W j:=fun j hj=>(hW j hj).imp (fun hx=>(on_set hs h1).2 (.inr hx)) id
   have hWi:W i:=(hW i hip).resolve_left h2
   have go:∀ {τ':St} {a1:Act} {w1:World} {μ1:Mu} {Fz1 Fy1:Nat->Prop},Sim C τ' a1 w1 μ1 Fz1 Fy1->Tog ops.toList pl σ0 outs (fun j=>j < pl.length/\On (listed.setIfInBounds i true) j) τ'->wpAnyIn (FR ro) rm G.P .any ops Q fuel (listed.setIfInBounds i true) a1 w1 :=
    fun h' ht'=>ih _ (by simpa using hs) hcl' hno' hW' (by omega) h' ht'
   obtain ⟨d,hd⟩:=hp.dst i oi hip (by simpa using ho)
   have hiout:i < outs.length:=by omega
   have hne:∀ j v ob,j < pl.length->outs[j]? = some (some (d,v,ob))->j=i:=fun j v ob hj hjo=>by
    have hjs:j < ops.size:=by omega
    obtain ⟨d',hd',hrest⟩:=hw3 j pl[j] ops[j] _ (List.getElem?_eq_getElem hj) (Array.getElem?_eq_getElem hjs) hjo
    simp only at hrest
    obtain ⟨rfl,_⟩:=hrest
    exact hp.inj j i ops[j] oi hj hip (by simp [hjs]) (by simpa using ho) (hd'.trans hd.symm)
   have hdt:overAt ops.toList pl i=false->lk d τ.env=none:=fun hov=>by
    cases hk:lk d τ.env with
    | none=>rfl
    | some u =>
     rcases ht.env d u hk with h3 | ⟨j,⟨hj,hjon⟩,ob,hjo⟩
     ·rw [hn1 i oi d hip ho hd hov] at h3; simp at h3
     ·exact absurd (hne j u ob hj hjo▸hjon) h2
   have hoi:=ho3 i pl[i] oi outs[i] hWi (List.getElem?_eq_getElem hip) ho (List.getElem?_eq_getElem hiout)
   have hwi:=hw3 i pl[i] oi outs[i] (List.getElem?_eq_getElem hip) ho (List.getElem?_eq_getElem hiout)
   generalize hx:outs[i]=out at hoi hwi
   have houti:outs[i]? = some out:=by rw [List.getElem?_eq_getElem hiout,hx]
   obtain ⟨d',hd',hwrest⟩:=hwi
   obtain rfl:d=d':=by rw [hd] at hd'; simpa using hd'
   obtain ⟨outs',σx,hsub,hσx,hat⟩:=hoi
   have hin:∀ (j:Nat) (x:Nat×V×Option Blk),outs'[j]? = some (some x)->outs[j]? = some (some x)/\(j < i\/((∀ j,overAt ops.toList pl j=false)/\maker oi.op=false)):=fun j x hj=>by
    rcases hsub with rfl | ⟨rfl,h6⟩
    ·have hji:j < i:=by
      have:=(List.getElem?_eq_some_iff.1 hj).1
      simp at this; omega
     exact ⟨by rw [List.getElem?_take,if_pos hji] at hj; exact hj,.inl hji⟩
    ·exact ⟨hj,.inr h6⟩
   have henv:∀ k v,lk k (pk σx.env pl[i].1)=some v->lk k τ.env=some v:=fun k v hk=>by
    obtain ⟨hk1,hk2⟩:=lk_pk hk
    have hk2:=hσx.1 k v hk2
    rcases afterO_env' hk2 with ⟨h3,hno3⟩ | ⟨j,ob,hj⟩
    ·rcases ht.base k v h3 with ⟨j,⟨hj,hjon⟩,hov,o,hjo,hjd⟩ | h4
     ·exfalso
      obtain ⟨_,v2,ob2,h5⟩:=hover j o k hov hjo hjd
      rcases hsub with rfl | ⟨rfl,h6,_⟩
      ·rcases hp.sees i j pl[i] o k (List.getElem?_eq_getElem hip) hj hjo hjd hk1 with h6 | ⟨_,h6 | h6⟩
       ·have hji:=hp.lt i j h6
        exact hno3 j v2 ob2 (by rw [List.getElem?_take,if_pos hji]; exact h5)
       ·subst h6; exact h2 hjon
       ·exact h2 (hcl j hjon i h6)
      ·rw [h6 j] at hov; simp at hov
     ·exact h4
    ·obtain ⟨hjo,hji⟩:=hin j _ hj
     have hjp:j < pl.length:=by rw [<-ho1]; exact (List.getElem?_eq_some_iff.1 hjo).1
     have hjs:j < ops.size:=by omega
     obtain ⟨d',hd',hrest'⟩:=hw3 j pl[j] ops[j] _ (List.getElem?_eq_getElem hjp) (Array.getElem?_eq_getElem hjs) hjo
     simp only at hrest'
     obtain ⟨rfl,_⟩:=hrest'
     rcases hp.sees i j pl[i] ops[j] k (List.getElem?_eq_getElem hip) hjp (by simp [hjs]) hd' hk1 with h6 | ⟨h7,h6⟩
     ·exact (ht.has j k v ob ⟨hjp,hdep j h6⟩ hjo).1
     ·rcases hji with hji | ⟨h8,_⟩
      ·rcases h6 with h6 | h6
       ·omega
       ·have:=hp.lt j i h6; omega
      ·rw [h8 j] at h7; simp at h7
   have hmk:∀ j (e:Oper) d1 v1 b1,j < pl.length->ops[j]? = some e->outs[j]? = some (some (d1,v1,some b1))->e.dst=some d1/\maker e.op=true:=fun j e d1 v1 b1 hj he hjo=>by
    obtain ⟨d',hd',hrest'⟩:=hw3 j pl[j] e _ (List.getElem?_eq_getElem hj) he hjo
    simp only at hrest'
    obtain ⟨rfl,_,_,hc⟩:=hrest'
    exact ⟨hd',hc (by simp)⟩
   have hblk:∀ s b,lk s (rmL pl[i].2 σx.blk)=some b->lk s τ.blk=some b:=fun s b hb=>by
    rw [lk_rmL] at hb
    split at hb
    ·simp at hb
    ·rename_i hsn
     have hb:=hσx.2 s b hb
     rcases afterO_blk hb with h3 | ⟨j,v,hj⟩
     ·exact ht.bblk s b h3
     ·obtain ⟨hjo,hji⟩:=hin j _ hj
      have hjp:j < pl.length:=by rw [<-ho1]; exact (List.getElem?_eq_some_iff.1 hjo).1
      have hjs:j < ops.size:=by omega
      obtain ⟨m1,m2⟩:=hmk j ops[j] s v b hjp (Array.getElem?_eq_getElem hjs) hjo
      rcases hp.hides i j pl[i] ops[j] s (List.getElem?_eq_getElem hip) hjp (by simp [hjs]) m1 m2 with h4 | h4 | h4
      ·exact (ht.has j s v (some b) ⟨hjp,hdep j h4⟩ hjo).2 b rfl
      ·rcases hji with hji | ⟨_,h8⟩
       ·omega
       ·subst h4
        have:ops[i]=oi:=by rw [Array.getElem?_eq_getElem hjs] at ho; simpa using ho
        rw [this,h8] at m2; simp at m2
      ·exact absurd h4 hsn
   unfold wpOpIn
   simp only [ho]
   match out,hat,hwrest,houti with
   | none,hg,hwr,houti =>
    simp only [AtFact] at hg
    have hg':=guardA_mono (τ:=τ) ⟨henv,fun s b hb=>by simp [lk] at hb⟩ hg
    have hnov:overAt ops.toList pl i=false:=by
     cases hov:overAt ops.toList pl i with
     | false=>rfl
     | true =>
      obtain ⟨_,v2,ob2,h5⟩:=hover i oi d hov (by simpa using ho) hd
      rw [houti] at h5; simp at h5
    have hdt:=hdt hnov
    rw [if_neg (by simp [guardA_sound h hg'])]
    refine ⟨fun _ _=>trivial,go (h.unset' oi.dst undef) ?_⟩
    rw [hd]
    have hrm:∀ k,lk k (unsetS τ (some d)).env=lk k τ.env:=fun k=>by
     simp only [unsetS,lk_rm]
     split
     ·rename_i e; rw [e,hdt]
     ·rfl
    refine { tr:=ht.tr,base:=fun k v hk=>(ht.base k v hk).imp (fun ⟨j,hj,r⟩=>⟨j,⟨hj.1,(on_set hs h1).2 (.inr hj.2)⟩,r⟩) (fun h=>by rw [hrm]; exact h),bblk:=ht.bblk,has:=fun j d v ob hj hjo=>?_,env:=fun k u hk=>?_,blk:=fun s b hb=>?_ }
    ·rw [on_set hs h1] at hj
     rcases hj.2 with rfl | hj2
     ·rw [houti] at hjo; simp at hjo
     ·rw [hrm]; exact ht.has j d v ob ⟨hj.1,hj2⟩ hjo
    ·rw [hrm] at hk
     exact (ht.env k u hk).imp id fun ⟨j,hj,r⟩=>⟨j,⟨hj.1,(on_set hs h1).2 (.inr hj.2)⟩,r⟩
    ·exact (ht.blk s b hb).imp id fun ⟨j,hj,r⟩=>⟨j,⟨hj.1,(on_set hs h1).2 (.inr hj.2)⟩,r⟩
   | some (d1,v,ob),hcase,hwr,houti =>
    simp only at hwr
    simp only [AtFact] at hcase
    obtain ⟨rfl,hm1,hm2,hmk1⟩:=hwr
    have hfresh:ob≠none->Fresh d1 τ:=fun hob=>by
     have hmi:maker oi.op=true:=hmk1 hob
     have hf0:=hn2 i oi d1 hWi hip ho hd hmi
     have hsp:∀ j d2 v2 ob2,j < pl.length->On listed j->outs[j]? = some (some (d2,v2,ob2))->ment 5 d1 v2=false/\∀ b,ob2=some b->∀ y∈bcells b,ment 5 d1 y=false:=fun j d2 v2 ob2 hj hjon hjo=>by
      have hjs:j < ops.size:=by omega
      obtain ⟨d',hd',hrest'⟩:=hw3 j pl[j] ops[j] _ (List.getElem?_eq_getElem hj) (Array.getElem?_eq_getElem hjs) hjo
      simp only at hrest'
      obtain ⟨rfl,k1,k2,_⟩:=hrest'
      have hin:d1∈pl[j].2:=by
       rcases hp.hides j i pl[j] oi d1 (List.getElem?_eq_getElem hj) hip (by simpa using ho) hd hmi with h4 | h4 | h4
       ·exact absurd (hcl j hjon i h4) h2
       ·exact absurd (h4▸hjon) h2
       ·exact h4
      refine ⟨?_,fun cells hc y hy=>?_⟩
      ·simp only [mentAny,List.any_eq_false] at k1
       simpa using k1 d1 hin
      ·subst hc
       simp only [blkMent,List.any_eq_false] at k2
       have:=k2 y hy
       simp only [mentAny,Bool.not_eq_true,List.any_eq_false] at this
       simpa using this d1 hin
     refine { env:=fun k u hk=>?_,box:=fun s cells hb y hy=>?_,none:=?_ }
     ·rcases ht.env k u hk with h3 | ⟨j,⟨hj,hjon⟩,ob2,hjo⟩
      ·exact hf0.env k u h3
      ·exact (hsp j k u ob2 hj hjon hjo).1
     ·rcases ht.blk s _ hb with h3 | ⟨j,⟨hj,hjon⟩,v2,hjo⟩
      ·exact hf0.box s cells h3 y hy
      ·exact (hsp j s v2 _ hj hjon hjo).2 cells rfl y hy
     ·cases hk:lk d1 τ.blk with
      | none=>rfl
      | some b =>
       rcases ht.blk d1 b hk with h3 | ⟨j,⟨hj,hjon⟩,v2,hjo⟩
       ·rw [hf0.none] at h3; simp at h3
       ·exact absurd (hne j v2 _ hj hjo▸hjon) h2
    have htog:∀ τ',Added d1 v ob τ τ'->Tog ops.toList pl σ0 outs (fun j=>j < pl.length/\On (listed.setIfInBounds i true) j) τ':=fun τ' hadd=>by
     refine { tr:=hadd.tr.trans ht.tr,base:=fun k u hk=>?_,bblk:=fun s b hb=>?_,has:=fun j d2 v2 ob2 hj hjo=>?_,env:=fun k u hk=>?_,blk:=fun s b hb=>?_ }
     ·rcases ht.base k u hk with ⟨j,hj,r⟩ | h6
      ·exact .inl ⟨j,⟨hj.1,(on_set hs h1).2 (.inr hj.2)⟩,r⟩
      ·by_cases e:k=d1
       ·cases hov:overAt ops.toList pl i with
        | true=>exact .inl ⟨i,⟨hip,(on_set hs h1).2 (.inl rfl)⟩,hov,oi,by simpa using ho,by rw [e]; exact hd⟩
        | false =>
         rw [e,hn1 i oi d1 hip ho hd hov] at hk
         simp at hk
       ·exact .inr (by rw [hadd.env,if_neg e]; exact h6)
     ·rw [hadd.blk]
      split
      ·rename_i e; subst e
       cases ob with
       | none=>exact ht.bblk _ b hb
       | some b1=>exact absurd hb (by
         have:=(hfresh (by simp)).none
         have h5:=ht.bblk _ b hb
         rw [this] at h5; simp at h5)
      ·exact ht.bblk s b hb
     ·rw [on_set hs h1] at hj
      by_cases e:j=i
      ·subst e
       rw [houti] at hjo
       simp only [Option.some.injEq,Prod.mk.injEq] at hjo
       obtain ⟨rfl,rfl,rfl⟩:=hjo
       refine ⟨by rw [hadd.env,if_pos rfl],fun b hb=>?_⟩
       rw [hadd.blk,if_pos rfl,hb]; rfl
      ·have hjon:On listed j:=hj.2.resolve_left e
       have hd2:d2≠d1:=fun e2=>by subst e2; exact e (hne j v2 ob2 hj.1 hjo)
       obtain ⟨k1,k2⟩:=ht.has j d2 v2 ob2 ⟨hj.1,hjon⟩ hjo
       refine ⟨by rw [hadd.env,if_neg hd2]; exact k1,fun b hb=>?_⟩
       rw [hadd.blk,if_neg hd2]; exact k2 b hb
     ·rw [hadd.env] at hk
      split at hk
      ·rename_i e; subst e
       simp only [Option.some.injEq] at hk; subst hk
       exact .inr ⟨i,⟨hip,(on_set hs h1).2 (.inl rfl)⟩,ob,houti⟩
      ·exact (ht.env k u hk).imp id fun ⟨j,hj,r⟩=>⟨j,⟨hj.1,(on_set hs h1).2 (.inr hj.2)⟩,r⟩
     ·rw [hadd.blk] at hb
      split at hb
      ·rename_i e; subst e
       cases ob with
       | none=>exact (ht.blk _ b (by simpa using hb)).imp id fun ⟨j,hj,r⟩=>⟨j,⟨hj.1,(on_set hs h1).2 (.inr hj.2)⟩,r⟩
       | some b1 =>
        simp only [Option.some_or,Option.some.injEq] at hb
        subst hb
        exact .inr ⟨i,⟨hip,(on_set hs h1).2 (.inl rfl)⟩,v,houti⟩
      ·exact (ht.blk s b hb).imp id fun ⟨j,hj,r⟩=>⟨j,⟨hj.1,(on_set hs h1).2 (.inr hj.2)⟩,r⟩
    rcases hcase with ⟨hg,ha⟩ | ⟨hg,rfl,rfl⟩
    ·have hg':=guardA_mono (τ:=τ) ⟨henv,fun s b hb=>by simp [lk] at hb⟩ hg
     rw [if_pos (guardA_sound h hg')]
     obtain ⟨τ',hst,hadd⟩:=addA_step (keep:=keep) (N:=C.N) hC ⟨henv,hblk⟩ hd (hN i oi d1 hip ho hd) ha hfresh
     exact oper_in (stepA_nodefer hst) (stepA_sound hT hC h hst fun a' w' μ' Fz' Fy' h'=>go h' (htog τ' hadd))
    ·have hg':=guardA_mono (τ:=τ) ⟨henv,fun s b hb=>by simp [lk] at hb⟩ hg
     rw [if_neg (by simp [guardA_sound h hg'])]
     have hsk:skipS C.N τ (some d1)={ τ with env:=put d1 (.tup []) τ.env }:=by simp [skipS,hN i oi d1 hip ho hd]
     refine ⟨fun _ _=>trivial,?_⟩
     have h':=h.skip' oi.dst
     rw [hd,hsk] at h'
     rw [hd]
     exact go h' (htog _ (added_put d1 (.tup []) τ))
theorem weak_of_step {G:Pg} {keep:List Nat} {ops:List Oper} {pl:Plan} {σ:St} {i:Nat} {o:Oper} {e:List Nat×List Nat} {out:Option (Nat×V×Option Blk)} (ho:ops[i]? = some o) (he:pl[i]? = some e) (h:StepFact G keep ops σ o e out):WeakFact ops pl i o e out:=by
 obtain ⟨d,hd,hr⟩:=h
 refine ⟨d,hd,?_⟩
 match out,hr with
 | none,hg =>
  simp only at hg ⊢
  unfold overAt
  rw [ho,he]
  simp only [over1]
  cases hgu:o.guard with
  | none=>simp [guardA,hgu] at hg
  | some x=>simp
 | some (d',v,ob),hr =>
  simp only at hr ⊢
  obtain ⟨r1,r2,r3,r4⟩:=hr
  refine ⟨r1,r2,r3,fun hob=>?_⟩
  rcases r4 with ⟨_,ha⟩ | ⟨_,_,h0⟩
  ·cases hm:maker o.op with
   | true=>rfl
   | false=>exact absurd (addA_maker ha hm) hob
  ·exact absurd h0 hob
theorem at_of_step {G:Pg} {keep:List Nat} {ops:List Oper} {σ:St} {o:Oper} {e:List Nat×List Nat} {out:Option (Nat×V×Option Blk)} (h:StepFact G keep ops σ o e out):AtFact G keep ops σ o e out:=by
 obtain ⟨d,hd,hr⟩:=h
 unfold AtFact
 match out,hr with
 | none,hg=>exact hg
 | some (d',v,ob),hr =>
  simp only at hr ⊢
  obtain ⟨rfl,_,_,r4⟩:=hr
  exact r4
theorem front_sound (hT:TOk G) (hC:CtxOk G) (hpo:planOk ops.toList pl=true) {Q:Exit->Act->World->Prop} {ro:Option Nat} {rm:Nat} {σ':St}
  (hY:YOk G C) (hQ:∀ M' a' w' μ' Fz' Fy',More C M'->Sim (C.withM M') σ' a' w' μ' Fz' Fy'->Q .normal a' w') (hN:∀ (i:Nat) (o:Oper) (d:Nat),i < pl.length->ops[i]? = some o->o.dst=some d->d < C.N)
  (ho1:outs.length=pl.length) (ho2:runOps G keep C.N ops.toList (ops.toList.drop pl.length) (afterO σ0 outs)=some σ')
  (ho3:∀ (i:Nat) (e:List Nat×List Nat) (o:Oper) (out:Option (Nat×V×Option Blk)),pl[i]? = some e->ops[i]? = some o->outs[i]? = some out->StepFact G keep ops.toList (afterO σ0 (outs.take i)) o e out)
  (hn1:∀ (i:Nat) (o:Oper) (d:Nat),i < pl.length->ops[i]? = some o->o.dst=some d->overAt ops.toList pl i=false->lk d σ0.env=none)
  (hn2:∀ (i:Nat) (o:Oper) (d:Nat),i < pl.length->ops[i]? = some o->o.dst=some d->maker o.op=true->Fresh d σ0)
  (fuel:Nat) (listed:Array Bool) {τ:St} {a:Act} {w:World} {μ:Mu} {Fz Fy:Nat->Prop} (hs:listed.size=ops.size) (hcl:∀ i,On listed i->∀ x,((depTab ops.toList []).getD i 0).testBit x=true->On listed x)
  (hno:∀ i,pl.length<=i->i < ops.size->¬ On listed i) (hl:left ops.size listed<=fuel) (h:Sim C τ a w μ Fz Fy) (ht:Tog ops.toList pl σ0 outs (fun i=>i < pl.length/\On listed i) τ):wpAnyIn (FR ro) rm G.P .any ops Q fuel listed a w:=by
 have hp:=planOk_sound hpo
 have hw3:∀ (i:Nat) (e:List Nat×List Nat) (o:Oper) (out:Option (Nat×V×Option Blk)),pl[i]? = some e->ops[i]? = some o->outs[i]? = some out->WeakFact ops.toList pl i o e out:=fun i e o out he ho hout=>weak_of_step (by simpa using ho) he (ho3 i e o out he ho hout)
 refine front_gen (keep:=keep) (m0:=pl.length) hT hC hp (fun _=>True) hY hQ hN ho1 hw3 (end_sound hT hC hp hY hQ ho1 (Nat.le_refl _) (by simpa using hp.len) ⟨fun _ _ x=>x,fun _ _ x=>x⟩ (afterO_tr _ _) ho2 hw3) (fun i e o out _ he ho hout=>⟨_,_,.inl rfl,⟨fun _ _ x=>x,fun _ _ x=>x⟩,at_of_step (ho3 i e o out he ho hout)⟩) hn1 (fun i o d _=>hn2 i o d)
  (fun fuel listed τ a w μ Fz Fy i hs hcl hno hf h ht hj hi hdep hip h1=>?_) fuel listed hs hcl (fun i hi hi2=>⟨fun hx=>absurd hx (hno i hi hi2),fun hx=>by omega⟩) (fun _ _=>.inr trivial) hl h ht
 obtain ⟨j0,hj0,hj0u⟩:=hj
 exact absurd (hdep j0 (planOkM_tail hpo i hip (by simpa using h1) j0 (by omega))) hj0u
theorem mem_dsts' {ops:List Oper} {n i d:Nat} {o:Oper} (hi:i < n) (ho:ops[i]? = some o) (hd:o.dst=some d):d∈dsts ops n :=
 List.mem_map.2 ⟨o,List.mem_of_getElem? (take_get hi ho),by simp [hd]⟩
def stoB (G:Pg) (N:Nat) (σ:St) (o:Oper):Option (Nat×Blk×Option (Nat×FV)) :=
 match o.guard,o.dst,o.op with
 | none,none,.store t p x=>match opd σ p,opd σ x with
  | some (.pel s i j),some x=>match lk t G.tbl,vcells σ x with
   | some ti,some vc=>if vc.length=ti.size/\vc.all (vone σ)=true then match lk s σ.blk,elemsA σ vc with
     | some (.arr sz xs),some ([],ys)=>match xs[i]? with
      | some x=>match setEl x j ys with
       | some y=>if cellsOK sz y=true then some (s,.arr sz (xs.set i y),none) else none
       | none=>none
      | none=>none
     | _,_=>none
    else none
   | _,_=>none
  | some (.ptr s off),some x=>match lk t G.tbl,vcells σ x with
   | some ti,some vc=>if vc.length=ti.size/\vc.all (vone σ)=true then match lk s σ.blk with
     | some (.box cells)=>if off+vc.length<=cells.length then some (s,.box (splice cells off vc),none) else none
     | _=>none
    else none
   | _,_=>none
  | _,_=>none
 | none,some d,.call ⟨.value f,args,_⟩=>match opd σ f,opds σ args.toList with
  | some f,some args=>match fnOf f with
   | some (k,first,captured)=>match G.wr k σ.blk (first++args++captured) with
    | some (s,b,x)=>if d < N then some (s,b,some (d,x)) else none
    | none=>none
   | none=>none
  | _,_=>none
 | _,_,_=>none
def stoE (σ:St) (s:Nat) (b:Blk):Option (Nat×FV)->St
 | none=>{ σ with blk:=put s b σ.blk }
 | some (d,x)=>{ σ with env:=put d (.fv false x) σ.env,blk:=put s b σ.blk }
theorem stoE_tr (σ:St) (s:Nat) (b:Blk) (q:Option (Nat×FV)):(stoE σ s b q).tr=σ.tr:=by cases q<;>rfl
theorem stoE_blk (σ:St) (s:Nat) (b:Blk) (q:Option (Nat×FV)):(stoE σ s b q).blk=put s b σ.blk:=by cases q<;>rfl
def slotE:Option (Nat×FV)->Option (Nat×V)
 | none=>none
 | some (d,x)=>some (d,.fv false x)
theorem stoE_env (σ:St) (s:Nat) (b:Blk) (q:Option (Nat×FV)) (k:Nat):lk k (stoE σ s b q).env=match slotE q with | some (d,v)=>if k=d then some v else lk k σ.env | none=>lk k σ.env:=by
 cases q with
 | none=>rfl
 | some p=>simp only [stoE,slotE,lk_put]
theorem vone_mono {π τ:St} (H:Le π τ) {x:V} (h:vone π x=true):vone τ x=true:=by
 cases x<;>simp only [vone] at h ⊢<;>first
  | exact pres_mono H h
  | exact h
theorem stoB_step (hT:TOk G) (hC:CtxOk G) {π τ:St} (H:Le π τ) {o:Oper} {s:Nat} {b:Blk} {q:Option (Nat×FV)} (hst:stoB G C.N π o=some (s,b,q)) :
  o.guard=none/\(o.dst=(slotE q).map (·.1))/\(∀ {a:Act} {w:World} {μ:Mu} {Fz Fy:Nat->Prop} {ro:Option Nat} {rm:Nat},Sim C τ a w μ Fz Fy->∀ {K:Act->World->Prop} {Q:Exit->Act->World->Prop},(∀ a' w' μ' Fz' Fy',Sim C (stoE τ s b q) a' w' μ' Fz' Fy'->K a' w')->o.wpIn (FR ro) rm G.P a w K Q):=by
 unfold stoB at hst
 split at hst
 ·rename_i t p x hg hd hop
  split at hst
  ·rename_i s' i j x' e1 e2
   split at hst
   ·rename_i ti vc e3 e4
    split at hst
    ·rename_i hc
     split at hst
     ·rename_i sz xs ys e5 e6
      split at hst
      ·rename_i x2 e7
       split at hst
       ·rename_i y e8
        split at hst
        ·rename_i hk
         simp only [Option.some.injEq,Prod.mk.injEq] at hst
         obtain ⟨rfl,rfl,rfl⟩:=hst
         refine ⟨hg,hd,fun {a w μ Fz Fy ro rm} h {K Q} hK=>?_⟩
         have hsa:stepA G [] C.N τ o=some { τ with blk:=put s' (.arr sz (xs.set i y)) τ.blk }:=by
          unfold stepA
          simp only [hd,hop,opd_mono H e1,opd_mono H e2]
          unfold stoA
          simp only [e3,vcells_mono H e4]
          rw [if_pos ⟨hc.1,by
           rw [List.all_eq_true] at hc ⊢
           exact fun y hy=>vone_mono H (hc.2 y hy)⟩]
          simp only [H.2 _ _ e5,elemsA_mono H e6,e7,e8]
          rw [if_pos ⟨by simp,hk⟩]
          rfl
         exact oper_in (stepA_nodefer hsa) (stepA_sound hT hC h hsa hK)
        ·simp at hst
       ·simp at hst
      ·simp at hst
     ·simp at hst
    ·simp at hst
   ·simp at hst
  ·rename_i s' off x' e1 e2
   split at hst
   ·rename_i ti vc e3 e4
    split at hst
    ·rename_i hc
     split at hst
     ·rename_i cells e5
      split at hst
      ·rename_i hk
       simp only [Option.some.injEq,Prod.mk.injEq] at hst
       obtain ⟨rfl,rfl,rfl⟩:=hst
       refine ⟨hg,hd,fun {a w μ Fz Fy ro rm} h {K Q} hK=>?_⟩
       have hsa:stepA G [] C.N τ o=some { τ with blk:=put s' (.box (splice cells off vc)) τ.blk }:=by
        unfold stepA
        simp only [hd,hop,opd_mono H e1,opd_mono H e2]
        unfold stoA
        simp only [e3,vcells_mono H e4]
        rw [if_pos ⟨hc.1,by
         rw [List.all_eq_true] at hc ⊢
         exact fun y hy=>vone_mono H (hc.2 y hy)⟩]
        simp only [H.2 _ _ e5]
        rw [if_pos hk]
       exact oper_in (stepA_nodefer hsa) (stepA_sound hT hC h hsa hK)
      ·simp at hst
     ·simp at hst
    ·simp at hst
   ·simp at hst
  ·simp at hst
 ·rename_i d f args ats hg hd hop
  split at hst
  ·rename_i fv avs e1 e2
   split at hst
   ·rename_i k first captured e3
    split at hst
    ·rename_i s' b' x e4
     split at hst
     ·rename_i hdN
      simp only [Option.some.injEq,Prod.mk.injEq] at hst
      obtain ⟨rfl,rfl,rfl⟩:=hst
      refine ⟨hg,hd,fun {a w μ Fz Fy ro rm} h {K Q} hK=>?_⟩
      obtain ⟨hen,hval⟩:=hC.w k _ _ s' b' x e4
      exact oper_in (fun c e=>by rw [hop] at e; cases e) (inl0_sound h hdN e3 hen (hval τ H.2).2.2 hop hd (opd_sound h (opd_mono H e1)) (opds_cells h (opds_mono H e2)) hK)
     ·simp at hst
    ·simp at hst
   ·simp at hst
  ·simp at hst
 ·simp at hst
def lateF (ops:List Oper) (n:Nat):List Bool:=(List.range n).map fun j=>!((depTab ops []).getD n 0).testBit j
def lateD:List Oper->List Bool->List Nat
 | o :: r,true :: fs=>o.dst.getD 0 :: lateD r fs
 | _ :: r,false :: fs=>lateD r fs
 | _,_=>[]
def lateC (G:Pg) (keep:List Nat) (σ:St):Plan->List Oper->List Bool->Prop
 | e :: pl,o :: r,true :: fs=>(o.guard=none/\maker o.op=false/\∃ d v,o.dst=some d/\lk d σ.env=some v/\addA G keep ⟨pk σ.env e.1,rmL e.2 σ.blk,[]⟩ d o.type o.op=some (v,none))/\lateC G keep σ pl r fs
 | _ :: pl,_ :: r,false :: fs=>lateC G keep σ pl r fs
 | _,_,_=>True
theorem lateD_mem:∀ {ops:List Oper} {fs:List Bool} {i:Nat} {o:Oper} {d:Nat},ops[i]? = some o->fs[i]? = some true->o.dst=some d->d∈lateD ops fs
 | o :: r,f :: fs,i,o',d,ho,hf,hd=>by
  cases i with
  | zero =>
   simp only [List.getElem?_cons_zero,Option.some.injEq] at ho hf
   subst ho; subst hf
   simp [lateD,hd]
  | succ i =>
   have:=lateD_mem (ops:=r) (fs:=fs) (by simpa using ho) (by simpa using hf) hd
   cases f<;>simp [lateD,this]
 | [],_,_,_,_,ho,_,_=>by simp at ho
 | _ :: _,[],_,_,_,_,hf,_=>by simp at hf
theorem lateC_get {G:Pg} {keep:List Nat} {σ:St}:∀ {pl:Plan} {ops:List Oper} {fs:List Bool} {i:Nat} {e:List Nat×List Nat} {o:Oper},lateC G keep σ pl ops fs->pl[i]? = some e->ops[i]? = some o->fs[i]? = some true ->
  o.guard=none/\maker o.op=false/\∃ d v,o.dst=some d/\lk d σ.env=some v/\addA G keep ⟨pk σ.env e.1,rmL e.2 σ.blk,[]⟩ d o.type o.op=some (v,none)
 | e :: pl,o :: r,f :: fs,i,e',o',h,he,ho,hf=>by
  cases i with
  | zero =>
   simp only [List.getElem?_cons_zero,Option.some.injEq] at he ho hf
   subst he; subst ho; subst hf
   exact h.1
  | succ i =>
   have h':lateC G keep σ pl r fs:=by cases f<;>first | exact h.2 | exact h
   exact lateC_get h' (by simpa using he) (by simpa using ho) (by simpa using hf)
 | [],_,_,_,_,_,_,he,_,_=>by simp at he
 | _ :: _,[],_,_,_,_,_,_,ho,_=>by simp at ho
 | _ :: _,_ :: _,[],_,_,_,_,_,_,hf=>by simp at hf
def planLate (ops:List Oper) (pl:Plan):Bool:=planOkM ops pl (pl.length+1)&&(List.range ops.length).all fun j=>!overAt ops pl j
theorem afterO_put {s:Nat} {b:Blk} {q:Option (Nat×FV)} {outs:List (Option (Nat×V×Option Blk))} {σ:St} (hb:∀ (j d:Nat) (v:V) (b':Blk),outs[j]? = some (some (d,v,some b'))->d≠s) (hd:∀ p,slotE q=some p->∀ (j d:Nat) (v:V) (ob:Option Blk),outs[j]? = some (some (d,v,ob))->d≠p.1) :
  (∀ k,lk k (afterO (stoE σ s b q) outs).env=match slotE q with | some (d,v)=>if k=d then some v else lk k (afterO σ outs).env | none=>lk k (afterO σ outs).env)/\∀ t,lk t (afterO (stoE σ s b q) outs).blk=if t=s then some b else lk t (afterO σ outs).blk:=by
 suffices H:∀ {outs:List (Option (Nat×V×Option Blk))} {σ τ:St},(∀ k,lk k τ.env=match slotE q with | some (d,v)=>if k=d then some v else lk k σ.env | none=>lk k σ.env)->(∀ t,lk t τ.blk=if t=s then some b else lk t σ.blk)->(∀ (j d:Nat) (v:V) (b':Blk),outs[j]? = some (some (d,v,some b'))->d≠s)->(∀ p,slotE q=some p->∀ (j d:Nat) (v:V) (ob:Option Blk),outs[j]? = some (some (d,v,ob))->d≠p.1) ->
   (∀ k,lk k (afterO τ outs).env=match slotE q with | some (d,v)=>if k=d then some v else lk k (afterO σ outs).env | none=>lk k (afterO σ outs).env)/\∀ t,lk t (afterO τ outs).blk=if t=s then some b else lk t (afterO σ outs).blk from
  H (stoE_env σ s b q) (fun t=>by simp only [stoE_blk,lk_put]) hb hd
 intro outs
 induction outs with
 | nil=>intro σ τ h1 h2 _ _; exact ⟨h1,h2⟩
 | cons x r ih =>
  intro σ τ h1 h2 hne hdq
  refine ih (σ:=addO σ x) (τ:=addO τ x) ?_ ?_ (fun j d v b' hj=>hne (j+1) d v b' (by simpa using hj)) (fun p hp j d v ob hj=>hdq p hp (j+1) d v ob (by simpa using hj))
  ·intro k
   have key:∀ (d:Nat) (v:V),(∀ p,slotE q=some p->d≠p.1)->lk k (put d v τ.env)=match slotE q with | some (d',v')=>if k=d' then some v' else lk k (put d v σ.env) | none=>lk k (put d v σ.env):=fun d v hd=>by
    rw [lk_put,lk_put,h1 k]
    cases hs:slotE q with
    | none=>rfl
    | some p =>
     have:=hd p hs
     by_cases e:k=d
     ·subst e; simp [this]
     ·simp [e]
   match x,hdq with
   | none,_=>exact h1 k
   | some (d,v,none),hdq=>exact key d v fun p hp=>hdq p hp 0 d v none rfl
   | some (d,v,some b'),hdq=>exact key d v fun p hp=>hdq p hp 0 d v (some b') rfl
  ·intro t
   match x,hne with
   | none,_=>exact h2 t
   | some (d,v,none),_=>exact h2 t
   | some (d,v,some b'),hne =>
    have hd:=hne 0 d v b' rfl
    simp only [addO,lk_put]
    by_cases e:t=d
    ·subst e; simp [hd]
    ·simp only [e,if_false]; exact h2 t
theorem afterO_has {σ:St}:∀ {outs:List (Option (Nat×V×Option Blk))} {i d:Nat} {v:V} {ob:Option Blk},outs[i]? = some (some (d,v,ob))->(∀ j u ob',outs[j]? = some (some (d,u,ob'))->j=i)->lk d (afterO σ outs).env=some v:=by
 intro outs i d v ob hi hu
 cases hk:lk d (afterO σ outs).env with
 | some u =>
  rcases afterO_env' hk with ⟨_,hn⟩ | ⟨j,ob',hj⟩
  ·exact absurd hi (hn i v ob)
  ·have:=hu j u ob' hj
   subst this
   rw [hi] at hj
   simp only [Option.some.injEq,Prod.mk.injEq] at hj
   rw [hj.2.1]
 | none =>
  exfalso
  have key:∀ {outs:List (Option (Nat×V×Option Blk))} {σ:St},(lk d σ.env≠none\/∃ (i:Nat) (v:V) (ob:Option Blk),outs[i]? = some (some (d,v,ob)))->lk d (afterO σ outs).env≠none:=by
   intro outs
   induction outs with
   | nil =>
    intro σ h
    rcases h with h | ⟨i,v,ob,h⟩
    ·exact h
    ·simp at h
   | cons x r ih =>
    intro σ h
    refine ih (σ:=addO σ x) ?_
    have hput:∀ (d':Nat) (u:V),lk d σ.env≠none->lk d (put d' u σ.env)≠none:=fun d' u h0=>by
     rw [lk_put]; split<;>simp [h0]
    rcases h with h | ⟨i,v,ob,h⟩
    ·left
     unfold addO
     split
     ·exact hput _ _ h
     ·exact hput _ _ h
     ·exact h
    ·cases i with
     | zero =>
      left
      simp only [List.getElem?_cons_zero,Option.some.injEq] at h
      subst h
      cases ob<;>simp [addO,lk_put]
     | succ i=>exact .inr ⟨i,v,ob,by simpa using h⟩
  exact key (.inr ⟨i,v,ob,hi⟩) hk
theorem late_sound (hT:TOk G) (hC:CtxOk G) (hpo:planLate ops.toList pl=true) {Q:Exit->Act->World->Prop} {ro:Option Nat} {rm:Nat} {σ':St}
  (hY:YOk G C) (hQ:∀ M' a' w' μ' Fz' Fy',More C M'->Sim (C.withM M') σ' a' w' μ' Fz' Fy'->Q .normal a' w') (hN:∀ (i:Nat) (o:Oper) (d:Nat),i < pl.length->ops[i]? = some o->o.dst=some d->d < C.N)
  (ho1:outs.length=pl.length)
  (ho3:∀ (i:Nat) (e:List Nat×List Nat) (o:Oper) (out:Option (Nat×V×Option Blk)),pl[i]? = some e->ops[i]? = some o->outs[i]? = some out->StepFact G keep ops.toList (afterO σ0 (outs.take i)) o e out)
  (hn1:∀ (i:Nat) (o:Oper) (d:Nat),i < pl.length->ops[i]? = some o->o.dst=some d->overAt ops.toList pl i=false->lk d σ0.env=none)
  (hn2:∀ (i:Nat) (o:Oper) (d:Nat),i < pl.length->ops[i]? = some o->o.dst=some d->maker o.op=true->Fresh d σ0)
  {on:Oper} (hon:ops[pl.length]? = some on) {s:Nat} {b:Blk} {q:Option (Nat×FV)} (hst:stoB G C.N ⟨rmL (lateD ops.toList (lateF ops.toList pl.length)) (afterO σ0 outs).env,(afterO σ0 outs).blk,[]⟩ on=some (s,b,q)) (hs0:lk s σ0.blk≠none)
  (hq1:∀ d,on.dst=some d->d∉dsts ops.toList pl.length/\lk d σ0.env=none)
  (hlc:lateC G keep (stoE (afterO σ0 outs) s b q) pl ops.toList (lateF ops.toList pl.length))
  (ho2:runOps G keep C.N ops.toList (ops.toList.drop (pl.length+1)) (stoE (afterO σ0 outs) s b q)=some σ')
  (fuel:Nat) (listed:Array Bool) {τ:St} {a:Act} {w:World} {μ:Mu} {Fz Fy:Nat->Prop} (hs:listed.size=ops.size) (hcl:∀ i,On listed i->∀ x,((depTab ops.toList []).getD i 0).testBit x=true->On listed x)
  (hno:∀ i,pl.length<=i->i < ops.size->¬ On listed i) (hl:left ops.size listed<=fuel) (h:Sim C τ a w μ Fz Fy) (ht:Tog ops.toList pl σ0 outs (fun i=>i < pl.length/\On listed i) τ):wpAnyIn (FR ro) rm G.P .any ops Q fuel listed a w:=by
 simp only [planLate,Bool.and_eq_true,List.all_eq_true,List.mem_range,Bool.not_eq_true'] at hpo
 obtain ⟨hpo,hov⟩:=hpo
 have hnov:∀ j,overAt ops.toList pl j=false:=fun j=>by
  by_cases hj:j < ops.toList.length
  ·exact hov j hj
  ·unfold overAt
   rw [List.getElem?_eq_none (Nat.le_of_not_lt hj)]
 have hp:=planOkM_sound hpo (Nat.le_refl _)
 have htl:=planOkM_tail hpo
 have hnlt:pl.length < ops.size:=(Array.getElem?_eq_some_iff.1 hon).1
 have hw3:∀ (i:Nat) (e:List Nat×List Nat) (o:Oper) (out:Option (Nat×V×Option Blk)),pl[i]? = some e->ops[i]? = some o->outs[i]? = some out->WeakFact ops.toList pl i o e out:=fun i e o out he ho hout=>weak_of_step (pl:=pl) (i:=i) (by simpa using ho) he (ho3 i e o out he ho hout)
 have hdst:∀ (i d:Nat) (v:V) (ob:Option Blk),outs[i]? = some (some (d,v,ob))->∃ (hi:i < pl.length) (hio:i < ops.size),(ops[i]'hio).dst=some d/\(ob≠none->maker (ops[i]'hio).op=true):=fun i d v ob hi=>by
  have hi':i < pl.length:=by rw [<-ho1]; exact (List.getElem?_eq_some_iff.1 hi).1
  obtain ⟨d1,hd1,hr1⟩:=hw3 i pl[i] (ops[i]'(by omega)) _ (List.getElem?_eq_getElem hi') (Array.getElem?_eq_getElem _) hi
  simp only at hr1
  exact ⟨hi',by omega,by rw [hr1.1]; exact hd1,hr1.2.2.2⟩
 have huniq:∀ (i j d:Nat) (v u:V) (ob ob':Option Blk),outs[i]? = some (some (d,v,ob))->outs[j]? = some (some (d,u,ob'))->j=i:=fun i j d v u ob ob' hi hj=>by
  obtain ⟨h1,h2,h3,_⟩:=hdst i d v ob hi
  obtain ⟨k1,k2,k3,_⟩:=hdst j d u ob' hj
  exact hp.inj j i _ _ k1 h1 (by simp [k2]) (by simp [h2]) (k3.trans h3.symm)
 have hmade:∀ (j d:Nat) (v:V) (b':Blk),outs[j]? = some (some (d,v,some b'))->d≠s:=fun j d v b' hj e=>by
  obtain ⟨k1,k2,k3,k4⟩:=hdst j d v _ hj
  have:=(hn2 j _ d k1 (Array.getElem?_eq_getElem k2) k3 (k4 (by simp))).none
  rw [e] at this
  exact hs0 this
 have hle0:Le ⟨rmL (lateD ops.toList (lateF ops.toList pl.length)) (afterO σ0 outs).env,(afterO σ0 outs).blk,[]⟩ (afterO σ0 outs):=⟨fun k v hk=>by
  rw [lk_rmL] at hk
  split at hk
  ·simp at hk
  ·exact hk,fun _ _ hb=>hb⟩
 have hond:=(stoB_step hT hC hle0 hst).2.1
 have hqd:∀ p,slotE q=some p->∀ (j d:Nat) (v:V) (ob:Option Blk),outs[j]? = some (some (d,v,ob))->d≠p.1:=fun p hp' j d v ob hj e=>by
  obtain ⟨k1,k2,k3,_⟩:=hdst j d v ob hj
  rw [hp'] at hond
  exact (hq1 p.1 hond).1 (mem_dsts' k1 (by simp [k2]) (e▸k3))
 obtain ⟨hput1,hput2⟩:=afterO_put (s:=s) (b:=b) (q:=q) (outs:=outs) (σ:=σ0) hmade hqd
 have main:∀ (fuel:Nat) (listed:Array Bool) {τ:St} {a:Act} {w:World} {μ:Mu} {Fz Fy:Nat->Prop},listed.size=ops.size->(∀ i,On listed i->∀ x,((depTab ops.toList []).getD i 0).testBit x=true->On listed x) ->
   (∀ i,pl.length<=i->i < ops.size->(On listed i↔i < pl.length))->left ops.size (listed.setIfInBounds pl.length true)<=fuel->Sim C τ a w μ Fz Fy->Tog ops.toList pl σ0 outs (fun i=>i < pl.length/\On listed i) τ ->
   (∀ x,((depTab ops.toList []).getD pl.length 0).testBit x=true->On listed x)->wpOpIn (FR ro) rm G.P ops Q pl.length (wpAnyIn (FR ro) rm G.P .any ops Q fuel (listed.setIfInBounds pl.length true)) a w:=by
  intro fuel listed τ a w μ Fz Fy hs hcl hno hf h ht hdep
  have h1:=hnlt
  have hlate:∀ j,j < pl.length->On listed j\/(lateF ops.toList pl.length)[j]? = some true:=fun j hj=>by
   cases hb:((depTab ops.toList []).getD pl.length 0).testBit j with
   | true=>exact .inl (hdep j hb)
   | false=>exact .inr (by simp [lateF,hj,<-List.getD_eq_getElem?_getD,hb])
  have hle:Le ⟨rmL (lateD ops.toList (lateF ops.toList pl.length)) (afterO σ0 outs).env,(afterO σ0 outs).blk,[]⟩ τ:=by
   refine ⟨fun k v hk=>?_,fun t b' hb=>?_⟩
   ·rw [lk_rmL] at hk
    split at hk
    ·simp at hk
    ·rename_i hnl
     rcases afterO_env' hk with ⟨h3,_⟩ | ⟨j,ob,hj⟩
     ·rcases ht.base k v h3 with ⟨j,_,hov,_⟩ | h4
      ·rw [hnov j] at hov; simp at hov
      ·exact h4
     ·obtain ⟨hj',hjs,k3,_⟩:=hdst j k v ob hj
      rcases hlate j hj' with hx | hx
      ·exact (ht.has j k v ob ⟨hj',hx⟩ hj).1
      ·exact absurd (lateD_mem (by simp [hjs]) hx k3) hnl
   ·rcases afterO_blk hb with h3 | ⟨j,v,hj⟩
    ·exact ht.bblk t b' h3
    ·obtain ⟨hj',hjs,k3,k4⟩:=hdst j t v _ hj
     rcases hlate j hj' with hx | hx
     ·exact (ht.has j t v (some b') ⟨hj',hx⟩ hj).2 b' rfl
     ·have:=(lateC_get (o:=ops[j]) hlc (List.getElem?_eq_getElem hj') (by simp [hjs]) hx).2.1
      rw [k4 (by simp)] at this
      simp at this
  obtain ⟨g1,g2,g3⟩:=stoB_step hT hC hle hst
  unfold wpOpIn
  simp only [hon]
  rw [if_pos (guardA_sound (ops:=ops) h (by simp [guardA,g1]))]
  refine g3 h fun a' w' μ' Fz' Fy' h'=>?_
  have hle2:Le (stoE (afterO σ0 outs) s b q) (afterO (stoE σ0 s b q) outs):=⟨fun k v hk=>by rw [hput1,<-stoE_env]; exact hk,fun t b' hb=>by rw [hput2]; simpa [stoE_blk,lk_put] using hb⟩
  refine front_gen (keep:=keep) (σ0:=stoE σ0 s b q) (outs:=outs) (m0:=pl.length+1) hT hC hp (fun j=>(lateF ops.toList pl.length)[j]? = some true) hY hQ hN ho1 hw3 (end_sound hT hC hp hY hQ ho1 (by omega) (by omega) hle2 (by rw [stoE_tr,stoE_tr,afterO_tr]) ho2 hw3)
   (fun j e o out hj he ho hout=>?_) (fun j o d hj ho hd hov'=>?_) (fun j o d hj hj' ho hd hm=>?_) (fun fuel listed τ a w μ Fz Fy i hs hcl hno hf h ht hj hi hdep hip h1=>?_) fuel _ (by simpa using hs) (fun j hj x hx=>?_) (fun j hj hj2=>?_) (fun j hj=>(hlate j hj).imp (fun hx=>(on_set hs h1).2 (.inr hx)) id) hf h' ?_
  ·obtain ⟨k1,k2,d,v,k3,k4,k5⟩:=lateC_get hlc he (by simpa using ho) hj
   refine ⟨outs,stoE (afterO σ0 outs) s b q,.inr ⟨rfl,hnov,k2⟩,hle2,?_⟩
   obtain ⟨d',hd',hr⟩:=ho3 j e o out he ho hout
   obtain rfl:d=d':=by rw [k3] at hd'; simpa using hd'
   unfold AtFact
   match out,hr,hout with
   | none,hg,_=>simp [guardA,k1] at hg
   | some (d2,v2,ob2),hr,hout =>
    simp only at hr ⊢
    obtain ⟨rfl,_,_,hc⟩:=hr
    have e1:=afterO_has (σ:=σ0) hout (fun i u ob' hi=>huniq j i d2 v2 u ob2 ob' hout hi)
    have hne:∀ p,slotE q=some p->d2≠p.1:=fun p hp'=>hqd p hp' j d2 v2 ob2 hout
    rw [stoE_env] at k4
    have k4':lk d2 (afterO σ0 outs).env=some v:=by
     cases hs:slotE q with
     | none=>rw [hs] at k4; exact k4
     | some p=>rw [hs] at k4; simpa [hne p hs] using k4
    rw [e1] at k4'
    simp only [Option.some.injEq] at k4'
    subst k4'
    have e2:ob2=none:=by
     rcases hc with ⟨_,ha⟩ | ⟨_,_,h0⟩
     ·exact addA_maker ha k2
     ·exact h0
    subst e2
    exact .inl ⟨by simp [guardA,k1],k5⟩
  ·rw [stoE_env]
   have:=hn1 j o d hj ho hd hov'
   cases hs:slotE q with
   | none=>exact this
   | some p =>
    have hne:d≠p.1:=fun e=>by
     rw [hs] at hond
     exact (hq1 p.1 hond).1 (mem_dsts' hj (by simpa using ho) (e▸hd))
    simpa [hne] using this
  ·have:=(lateC_get hlc (List.getElem?_eq_getElem hj') (by simpa using ho) hj).2.1
   rw [hm] at this
   simp at this
  ·obtain ⟨j0,hj0,hj0u⟩:=hj
   obtain ⟨_,h2,_⟩:=ready_mem hs hi
   have:i≠pl.length:=fun e=>h2 ((hno i hip h1).2 (by omega))
   exact absurd (hdep j0 (htl i (by omega) (by simpa using h1) j0 (by omega))) hj0u
  ·rw [on_set hs h1] at hj ⊢
   rcases hj with rfl | hj
   ·exact .inr (hdep x hx)
   ·exact .inr (hcl j hj x hx)
  ·rw [on_set hs h1]
   constructor
   ·rintro (rfl | hx)
    ·omega
    ·have:=(hno j hj hj2).1 hx; omega
   ·intro hx; exact .inl (by omega)
  ·have hon':∀ j,j < pl.length->(On (listed.setIfInBounds pl.length true) j↔On listed j):=fun j hj=>by
    rw [on_set hs h1]
    exact ⟨fun hx=>hx.resolve_left (by omega),.inr⟩
   refine { tr:=by rw [stoE_tr,stoE_tr]; exact ht.tr,base:=fun k v hk=>?_,bblk:=fun t b' hb=>?_,has:=fun j d v ob hj hjo=>?_,env:=fun k u hk=>?_,blk:=fun t b' hb=>?_ }
   ·rw [stoE_env] at hk ⊢
    cases hs:slotE q with
    | none =>
     rw [hs] at hk
     exact (ht.base k v hk).imp (fun ⟨j,hj,r⟩=>⟨j,⟨hj.1,(hon' j hj.1).2 hj.2⟩,r⟩) id
    | some p =>
     rw [hs] at hk
     simp only at hk ⊢
     by_cases e:k=p.1
     ·rw [if_pos e] at hk ⊢; exact .inr hk
     ·rw [if_neg e] at hk ⊢
      exact (ht.base k v hk).imp (fun ⟨j,hj,r⟩=>⟨j,⟨hj.1,(hon' j hj.1).2 hj.2⟩,r⟩) id
   ·simp only [stoE_blk,lk_put] at hb ⊢
    split at hb
    ·rename_i e; rw [if_pos e]; exact hb
    ·rename_i e; rw [if_neg e]; exact ht.bblk t b' hb
   ·obtain ⟨k1,k2⟩:=ht.has j d v ob ⟨hj.1,(hon' j hj.1).1 hj.2⟩ hjo
    refine ⟨?_,fun b' hb=>?_⟩
    ·rw [stoE_env]
     cases hs:slotE q with
     | none=>exact k1
     | some p=>simpa [hqd p hs j d v ob hjo] using k1
    ·subst hb
     simp only [stoE_blk,lk_put,if_neg (hmade j d v b' hjo)]
     exact k2 b' rfl
   ·rw [stoE_env] at hk ⊢
    cases hs:slotE q with
    | none =>
     rw [hs] at hk
     exact (ht.env k u hk).imp id fun ⟨j,hj,r⟩=>⟨j,⟨hj.1,(hon' j hj.1).2 hj.2⟩,r⟩
    | some p =>
     rw [hs] at hk
     simp only at hk ⊢
     by_cases e:k=p.1
     ·rw [if_pos e] at hk ⊢; exact .inl hk
     ·rw [if_neg e] at hk ⊢
      exact (ht.env k u hk).imp id fun ⟨j,hj,r⟩=>⟨j,⟨hj.1,(hon' j hj.1).2 hj.2⟩,r⟩
   ·simp only [stoE_blk,lk_put] at hb ⊢
    split at hb
    ·rename_i e; rw [if_pos e]; exact .inl hb
    ·rename_i e; rw [if_neg e]
     exact (ht.blk t b' hb).imp id fun ⟨j,hj,r⟩=>⟨j,⟨hj.1,(hon' j hj.1).2 hj.2⟩,r⟩
 refine front_gen (keep:=keep) (m0:=pl.length) hT hC hp (fun _=>True) hY hQ hN ho1 hw3 (fun fuel listed τ a w μ Fz Fy hs hcl hno hf h ht hall=>?_) (fun i e o out _ he ho hout=>⟨_,_,.inl rfl,⟨fun _ _ x=>x,fun _ _ x=>x⟩,at_of_step (ho3 i e o out he ho hout)⟩) hn1 (fun i o d _=>hn2 i o d)
  (fun fuel listed τ a w μ Fz Fy i hs hcl hno hf h ht hj hi hdep hip h1=>?_) fuel listed hs hcl (fun i hi hi2=>⟨fun hx=>absurd hx (hno i hi hi2),fun hx=>by omega⟩) (fun _ _=>.inr trivial) hl h ht
 ·have hun:¬ On listed pl.length:=fun e=>by
   have:=(hno pl.length (Nat.le_refl _) hnlt).1 e
   omega
  cases fuel with
  | zero=>exact absurd (on_of_left hs (by omega) pl.length hnlt) hun
  | succ fuel =>
   refine ⟨fun hrd=>?_,fun i hi=>?_⟩
   ·obtain ⟨j,hj⟩:=ready_least hs (fun i o ho=>hp.back i o (by simpa using ho)) pl.length hnlt hun
    rw [hrd] at hj; simp at hj
   ·obtain ⟨h1,h2,oi,ho,hon'⟩:=ready_mem hs hi
    have hdep:∀ x,((depTab ops.toList []).getD i 0).testBit x=true->On listed x:=fun x hx=>by
     obtain ⟨e',he',hb,hor⟩:=hp.dep i oi (by simpa using ho) x hx
     have:=hon' e' he' hb
     rcases hor with rfl | h3
     ·exact this
     ·exact hcl _ this x h3
    have hin:i=pl.length:=by
     by_cases e:i=pl.length
     ·exact e
     ·by_cases e2:i < pl.length
      ·exact absurd (hall i e2) h2
      ·exact absurd (hdep pl.length (htl i (by omega) (by simpa using h1) pl.length (by omega))) hun
    subst hin
    have hlf:=left_set hs h1 h2
    exact main fuel listed hs hcl hno (by omega) h ht hdep
 ·obtain ⟨j0,hj0,hj0u⟩:=hj
  have hin:i=pl.length:=by
   by_cases e:i=pl.length
   ·exact e
   ·exact absurd (hdep j0 (htl i (by omega) (by simpa using h1) j0 (by omega))) hj0u
  subst hin
  exact main fuel listed hs hcl hno hf h ht hdep
def drawP (G:Pg) (keep:List Nat) (N:Nat) (ops:List Oper) (pl:Plan) (σ:St):Option St :=
 drawA G keep N ops pl ops (prep (dstsP ops pl) (makers ops pl.length) σ)
open Classical in
noncomputable def lateP (G:Pg) (keep:List Nat) (N:Nat) (ops:List Oper) (pl:Plan) (σ:St):Option St :=
 match drawA G keep N ops pl (ops.take pl.length) (prep (dstsP ops pl) (makers ops pl.length) σ),ops[pl.length]? with
 | some σf,some o=>match stoB G N ⟨rmL (lateD ops (lateF ops pl.length)) σf.env,σf.blk,[]⟩ o with
  | some (s,b,q)=>if lk s (prep (dstsP ops pl) (makers ops pl.length) σ).blk≠none/\(∀ d,o.dst=some d->d∉dsts ops pl.length/\lk d (prep (dstsP ops pl) (makers ops pl.length) σ).env=none)/\lateC G keep (stoE σf s b q) pl ops (lateF ops pl.length) then runOps G keep N ops (ops.drop (pl.length+1)) (stoE σf s b q) else none
  | none=>none
 | _,_=>none
noncomputable def drawT (T:List (Nat×Plan)) (G:Pg) (L:Live) (N:Nat):Drawer:=fun id ops σ =>
 match lk id T with
 | none=>none
 | some pl=>if (planOk ops pl&&(dsts ops pl.length).all fun d=>decide (d < N))=true then drawP G (kof L id).1 N ops pl σ else
   if (planLate ops pl&&(dsts ops pl.length).all fun d=>decide (d < N))=true then lateP G (kof L id).1 N ops pl σ else none
theorem prep_env {ds ms:List Nat} {σ:St} {d:Nat} (h:d∈ds):lk d (prep ds ms σ).env=none:=by
 simp only [prep,St.kill,lk_map,lk_rmL,h,if_true,Option.map_none]
theorem prep_fresh {ds ms:List Nat} {σ:St} {d:Nat} (h:d∈ms):Fresh d (prep ds ms σ):=by
 have hk:∀ v,ment 5 d (killV ms v)=false:=fun v=>by
  unfold killV
  split
  ·rfl
  ·rename_i hn
   simp only [List.any_eq_true,not_exists,not_and] at hn
   simpa using hn d h
 refine { env:=fun k u hu=>?_,box:=fun s cells hb y hy=>?_,none:=?_ }
 ·simp only [prep,St.kill,lk_map,Option.map_eq_some_iff] at hu
  obtain ⟨u',_,rfl⟩:=hu
  exact hk u'
 ·simp only [prep,St.kill,lk_map,Option.map_eq_some_iff] at hb
  obtain ⟨b',_,hb'⟩:=hb
  subst hb'
  rw [bcells_killB] at hy
  obtain ⟨y',_,rfl⟩:=List.mem_map.1 hy
  exact hk y'
 ·simp only [prep,St.kill,lk_map,lk_rmL,h,if_true,Option.map_none]
theorem Sim.prep {σ:St} {a:Act} {w:World} {μ:Mu} {Fz Fy:Nat->Prop} (h:Sim C σ a w μ Fz Fy) (ds ms:List Nat):Sim C (prep ds ms σ) a w μ Fz Fy:=by
 unfold E.prep
 refine Sim.kill (h.sub (fun k v hk=>?_) fun s b hb=>?_) ms
 ·simp only [lk_rmL] at hk
  split at hk
  ·simp at hk
  ·exact hk
 ·simp only [lk_rmL] at hb
  split at hb
  ·simp at hb
  ·exact hb
theorem mem_dsts {ops:List Oper} {n i d:Nat} {o:Oper} (hi:i < n) (ho:ops[i]? = some o) (hd:o.dst=some d):d∈dsts ops n :=
 List.mem_map.2 ⟨o,List.mem_of_getElem? (take_get hi ho),by simp [hd]⟩
theorem mem_makers {ops:List Oper} {n i d:Nat} {o:Oper} (hi:i < n) (ho:ops[i]? = some o) (hd:o.dst=some d) (hm:maker o.op=true):d∈makers ops n :=
 List.mem_map.2 ⟨o,List.mem_filter.2 ⟨List.mem_of_getElem? (take_get hi ho),hm⟩,by simp [hd]⟩
theorem drawOk (hT:TOk G) (hC:CtxOk G) (hmix:G.P.follows .mixedOrders=true) (T:List (Nat×Plan)) (L:Live) (N:Nat):DrawOk G N (drawT T G L N):=by
 intro C ro rm ops id σ σ' a w μ Fz Fy Q hCN hY hD h hQ
 subst hCN
 have hw:Stays C σ w { w with drawn:=w.drawn+1 } μ Fy:=Stays.of_below h ⟨rfl,rfl,rfl,Nat.le_refl _,fun _ _=>rfl,Nat.le_succ _⟩
 have hoff:∀ i,¬ On (Array.replicate ops.size false) i:=fun i=>by
  simp only [On,Array.getD_eq_getD_getElem?,Array.getElem?_replicate]
  split<;>simp
 have hnew1:∀ (pl:Plan) (i:Nat) (o:Oper) (d:Nat),i < pl.length->ops[i]? = some o->o.dst=some d->overAt ops.toList pl i=false->lk d (prep (dstsP ops.toList pl) (makers ops.toList pl.length) σ).env=none:=fun pl i o d hi ho hd hov=>prep_env (by
  have hpi:=List.getElem?_eq_getElem hi
  refine mem_dstsP (i:=i) (o:=o) (e:=pl[i]) (by simpa using ho) hpi hd ?_
  unfold overAt at hov
  rw [show ops.toList[i]? = some o by simpa using ho,hpi] at hov
  exact hov)
 have hnew2:∀ (pl:Plan) (i:Nat) (o:Oper) (d:Nat),i < pl.length->ops[i]? = some o->o.dst=some d->maker o.op=true->Fresh d (prep (dstsP ops.toList pl) (makers ops.toList pl.length) σ):=fun pl i o d hi ho hd hm=>prep_fresh (mem_makers hi (by simpa using ho) hd hm)
 have htog:∀ (pl:Plan) (outs:List (Option (Nat×V×Option Blk))) (σ0:St),Tog ops.toList pl σ0 outs (fun i=>i < pl.length/\On (Array.replicate ops.size false) i) σ0:=fun pl outs σ0 =>
  { tr:=rfl,base:=fun _ _ h=>.inr h,bblk:=fun _ _ h=>h,has:=fun j d v ob hj=>absurd hj.2 (hoff j),env:=fun k u hk=>.inl hk,blk:=fun s b hb=>.inl hb }
 have hleft:left ops.size (Array.replicate ops.size false)<=ops.size:=Nat.le_trans (List.length_filter_le _ _) (by simp)
 unfold drawT at hD
 split at hD
 ·simp at hD
 ·rename_i pl _
  split at hD
  ·rename_i hc
   simp only [Bool.and_eq_true,List.all_eq_true,decide_eq_true_eq] at hc
   obtain ⟨hpl,hN⟩:=hc
   refine wpIn_region_any hmix ?_
   unfold drawP at hD
   obtain ⟨outs,ho1,ho2,ho3⟩:=drawA_outs pl _ _ _ hD
   exact front_sound (keep:=(kof L id).1) hT hC hpl hY hQ (fun i o d hi ho hd=>hN d (mem_dsts hi (by simpa using ho) hd)) ho1 ho2 (fun i e o out he ho hout=>ho3 i e o out he (by simpa using ho) hout)
    (hnew1 pl) (hnew2 pl) ops.size _ (by simp) (fun i hi=>absurd hi (hoff i)) (fun i _ _=>hoff i) hleft ((h.stays hw).prep (dstsP ops.toList pl) (makers ops.toList pl.length)) (htog _ _ _)
  ·split at hD
   ·rename_i hc
    simp only [Bool.and_eq_true,List.all_eq_true,decide_eq_true_eq] at hc
    obtain ⟨hpl,hN⟩:=hc
    refine wpIn_region_any hmix ?_
    unfold lateP at hD
    split at hD
    ·rename_i σf on hf hon
     split at hD
     ·rename_i s b q hst
      split at hD
      ·rename_i hcc
       obtain ⟨outs,ho1,ho2,ho3⟩:=drawA_outs pl _ _ _ hf
       have hde:(ops.toList.take pl.length).drop pl.length=[]:=by simp
       rw [hde] at ho2
       simp only [runOps,Option.some.injEq] at ho2
       subst ho2
       exact late_sound (keep:=(kof L id).1) hT hC hpl hY hQ (fun i o d hi ho hd=>hN d (mem_dsts hi (by simpa using ho) hd)) ho1
        (fun i e o out he ho hout=>ho3 i e o out he (by
         have hi:i < pl.length:=(List.getElem?_eq_some_iff.1 he).1
         rw [List.getElem?_take,if_pos hi]; simpa using ho) hout)
        (hnew1 pl) (hnew2 pl) (by simpa using hon) hst hcc.1 hcc.2.1 hcc.2.2 hD ops.size _ (by simp) (fun i hi=>absurd hi (hoff i)) (fun i _ _=>hoff i) hleft ((h.stays hw).prep (dstsP ops.toList pl) (makers ops.toList pl.length)) (htog _ _ _)
      ·simp at hD
     ·simp at hD
    ·simp at hD
   ·simp at hD
theorem ex_draw {T:List (Nat×Plan)} {L:Live} {N n id:Nat} {ops:Array Oper} {σ σ':St} {pl:Plan} (h2:lk id T=some pl)
  (h3:planOk ops.toList pl=true) (h4:((dsts ops.toList pl.length).all fun d=>decide (d < N))=true) (h5:drawP G (kof L id).1 N ops.toList pl σ=some σ') :
  exec G L N (drawT T G L N) n (.region id ops true) σ=some (.normal,fin (kof L id) σ'):=by
 have h6:drawT T G L N id ops.toList σ=drawP G (kof L id).1 N ops.toList pl σ:=by
  unfold drawT
  simp only [h2]
  rw [if_pos (by simp [h3,h4])]
 simp only [exec,if_true,h6,h5]
end
def Ev (r:Option (Ex×St)) (Q:Ex->St->Prop):Prop :=
 match r with
 | some (e,σ)=>Q e σ
 | none=>False
def EvO (r:Option St) (Q:St->Prop):Prop :=
 match r with
 | some σ=>Q σ
 | none=>False
theorem Ev.get {r:Option (Ex×St)} {Q:Ex->St->Prop} (h:Ev r Q):∃ e σ,r=some (e,σ)/\Q e σ:=by
 unfold Ev at h
 split at h
 ·exact ⟨_,_,rfl,h⟩
 ·exact h.elim
theorem EvO.get {r:Option St} {Q:St->Prop} (h:EvO r Q):∃ σ,r=some σ/\Q σ:=by
 unfold EvO at h
 split at h
 ·exact ⟨_,rfl,h⟩
 ·exact h.elim
theorem ev_some {e:Ex} {σ:St} {Q:Ex->St->Prop} (h:Q e σ):Ev (some (e,σ)) Q:=h
theorem Ev.mono {r:Option (Ex×St)} {Q Q':Ex->St->Prop} (h:Ev r Q) (hq:∀ e σ,Q e σ->Q' e σ):Ev r Q':=by
 obtain ⟨e,σ,rfl,hQ⟩:=h.get
 exact hq e σ hQ
def finO (keep:List Nat×List Nat):Option St->Option St
 | some σ=>some (fin keep σ)
 | none=>none
@[simp] theorem finO_some (keep:List Nat×List Nat) (σ:St):finO keep (some σ)=some (fin keep σ):=rfl
theorem finO_eq {keep:List Nat×List Nat} {r:Option St} {σ':St} (h:finO keep r=some σ'):∃ τ,r=some τ/\fin keep τ=σ':=by
 cases r with
 | none=>simp [finO] at h
 | some τ=>exact ⟨τ,rfl,by simpa [finO] using h⟩
def Then (k:St->Prop) (Q:Ex->St->Prop):Ex->St->Prop
 | .normal,σ=>k σ
 | e,σ=>Q e σ
def InBlock (id:Nat) (Q:Ex->St->Prop):Ex->St->Prop
 | .normal,σ=>Q .normal σ
 | .exit j,σ=>if j=id then Q .normal σ else Q (.exit j) σ
 | .ret,σ=>Q .ret σ
@[simp] theorem then_normal {k:St->Prop} {Q:Ex->St->Prop} {σ:St}:Then k Q .normal σ=k σ:=rfl
@[simp] theorem then_exit {k:St->Prop} {Q:Ex->St->Prop} {σ:St} {i:Nat}:Then k Q (.exit i) σ=Q (.exit i) σ:=rfl
@[simp] theorem then_ret {k:St->Prop} {Q:Ex->St->Prop} {σ:St}:Then k Q .ret σ=Q .ret σ:=rfl
@[simp] theorem inBlock_normal {Q:Ex->St->Prop} {σ:St} {i:Nat}:InBlock i Q .normal σ=Q .normal σ:=rfl
@[simp] theorem inBlock_ret {Q:Ex->St->Prop} {σ:St} {i:Nat}:InBlock i Q .ret σ=Q .ret σ:=rfl
@[simp] theorem inBlock_exit {Q:Ex->St->Prop} {σ:St} {i j:Nat}:InBlock i Q (.exit j) σ=if j=i then Q .normal σ else Q (.exit j) σ:=rfl
section
variable {G:Pg} {L:Live} {N n id:Nat} {D:Drawer} {x y c:Code} {σ σ1 σ2 σ':St} {Q:Ex->St->Prop} {ops:Array Oper}
theorem ev_seq (h:Ev (exec G L N D n x σ) (Then (fun σ=>Ev (exec G L N D n y σ) Q) Q)):Ev (exec G L N D n (.seq x y) σ) Q:=by
 obtain ⟨e,τ,h1,h2⟩:=h.get
 cases e with
 | normal=>simp only [exec,h1]; exact h2
 | exit id=>simp only [exec,h1]; exact h2
 | ret=>simp only [exec,h1]; exact h2
theorem ev_reg (h1:finO (kof L id) (runOps G (kof L id).1 N ops.toList ops.toList σ)=some σ') (h2:Q .normal σ'):Ev (exec G L N D n (.region id ops false) σ) Q:=by
 obtain ⟨τ,h1',rfl⟩:=finO_eq h1
 simp only [exec,h1',Bool.false_eq_true,if_false]
 exact h2
theorem ev_drw {T:List (Nat×Plan)} {pl:Plan} (h2:lk id T=some pl)
  (h3:planOk ops.toList pl=true) (h4:((dsts ops.toList pl.length).all fun d=>decide (d < N))=true) (h5:finO (kof L id) (drawP G (kof L id).1 N ops.toList pl σ)=some σ') (h6:Q .normal σ') :
  Ev (exec G L N (drawT T G L N) n (.region id ops true) σ) Q:=by
 obtain ⟨τ,h5',rfl⟩:=finO_eq h5
 rw [ex_draw h2 h3 h4 h5']
 exact h6
theorem ev_late {T:List (Nat×Plan)} {pl:Plan} (h2:lk id T=some pl)
  (h3:planOk ops.toList pl=false) (h3':planLate ops.toList pl=true) (h4:((dsts ops.toList pl.length).all fun d=>decide (d < N))=true) {fs:List Bool} (hfs:lateF ops.toList pl.length=fs)
  {on:Oper} (hon:ops.toList[pl.length]? = some on) {σp σf:St} (hp:prep (dstsP ops.toList pl) (makers ops.toList pl.length) σ=σp) (hf:drawA G (kof L id).1 N ops.toList pl (ops.toList.take pl.length) σp=some σf)
  {s:Nat} {b:Blk} {q:Option (Nat×FV)} (hst:stoB G N ⟨rmL (lateD ops.toList fs) σf.env,σf.blk,[]⟩ on=some (s,b,q)) (hpre:lk s σp.blk≠none) (hdd:∀ d,on.dst=some d->d∉dsts ops.toList pl.length/\lk d σp.env=none) (hlc:lateC G (kof L id).1 (stoE σf s b q) pl ops.toList fs)
  (h5:finO (kof L id) (runOps G (kof L id).1 N ops.toList (ops.toList.drop (pl.length+1)) (stoE σf s b q))=some σ') (h6:Q .normal σ') :
  Ev (exec G L N (drawT T G L N) n (.region id ops true) σ) Q:=by
 obtain ⟨τ,h5',rfl⟩:=finO_eq h5
 subst hfs
 subst hp
 have e:drawT T G L N id ops.toList σ=some τ:=by
  unfold drawT
  rw [h2]
  simp only
  rw [if_neg (by simp [h3]),if_pos (by simp [h3',h4])]
  unfold lateP
  rw [hf,hon]
  simp only [hst]
  rw [if_pos ⟨hpre,hdd,hlc⟩]
  exact h5'
 simp only [exec,e,if_true]
 unfold Ev
 exact h6
theorem ev_cond {ro b:Bool} {t:Operand} (h:opd σ t=some (.fv ro (.bool b))) (h1:b=true->Ev (exec G L N D n x σ) Q) (h2:b=false->Ev (exec G L N D n y σ) Q):Ev (exec G L N D n (.cond t x y) σ) Q:=by
 cases b with
 | true=>simp only [exec,h,if_true]; exact h1 rfl
 | false=>simp only [exec,h,Bool.false_eq_true,if_false]; exact h2 rfl
theorem ev_skip (h:Q .normal σ):Ev (exec G L N D n .skip σ) Q:=h
theorem ev_exit (h:Q (.exit id) σ):Ev (exec G L N D n (.exit id) σ) Q:=h
theorem ev_scope (h:Ev (exec G L N D n c σ) Q):Ev (exec G L N D n (.scope c) σ) Q:=h
theorem ev_label {l:Nat} (h:Q .normal σ):Ev (exec G L N D n (.label l) σ) Q:=h
theorem ev_ret (h:Q .ret σ):Ev (exec G L N D n .ret σ) Q:=h
theorem ev_block (h:Ev (exec G L N D n c σ) (InBlock id Q)):Ev (exec G L N D n (.block id c) σ) Q:=by
 obtain ⟨e,τ,h1,h2⟩:=h.get
 cases e with
 | normal=>simp only [exec,h1]; exact h2
 | exit j =>
  simp only [exec,h1]
  simp only [inBlock_exit] at h2
  split
  ·rename_i e; rw [if_pos e] at h2; exact h2
  ·rename_i e; rw [if_neg e] at h2; exact h2
 | ret=>simp only [exec,h1]; exact h2
theorem ev_loop {α:Type} (S:α->St) (r:α->Nat) (I:α->Prop) (x0:α) (h0:σ=S x0) (hI:I x0) (hn:r x0 < n)
  (h:∀ x,I x->Ev (exec G L N D n c (S x)) (Then (fun σ'=>∃ y,σ'=S y/\I y/\r y < r x) Q)):Ev (exec G L N D n (.loop c) σ) Q:=by
 subst h0
 simp only [exec]
 have key:∀ m x,I x->r x < m->Ev (iter (exec G L N D n c) m (S x)) Q:=by
  intro m
  induction m with
  | zero=>intro x _ hm; omega
  | succ m ih =>
   intro x hx hm
   obtain ⟨e,τ,h1,h2⟩:=(h x hx).get
   simp only [iter,h1]
   cases e with
   | normal =>
    obtain ⟨y,rfl,hy,hlt⟩:=h2
    exact ih y hy (by omega)
   | exit id=>exact h2
   | ret=>exact h2
 exact key n x0 hI hn
end
def R:Nat:=2 ^ 64
theorem valid_of_ev {G:Pg} (hT:TOk G) (hC:CtxOk G) (hmix:G.P.follows .mixedOrders=true) {k:FuncId} {fn:Func} (hf:G.P.funcs[k]? = some fn) (T:List (Nat×Plan)) (L:Live)
  {args:List (Bool×FV)} {res:List TV} (hargs:args.length<=fn.ntmps/\fn.ntmps<=90000)
  (h:∃ c,fn.body=some c/\Ev (exec G L fn.ntmps (drawT T G L fn.ntmps) R c (initSt args)) (fun e σ=>(e = .normal\/e = .ret)/\∃ vs,slotsA G σ fn.results.toList=some vs/\retsA σ [] vs=some res)) (hyl:G.yl=none:=by rfl):Valid G.P k args res:=by
 obtain ⟨c,hb,hx⟩:=h
 obtain ⟨e,σ,h1,h2,vs,h3,h4⟩:=hx.get
 exact valid_of_exec hT hC hyl hf hb (D:=drawT T G L fn.ntmps) (drawOk hT hC hmix T L fn.ntmps) R hargs h1 h2 h3 h4
attribute [irreducible] Ev
attribute [simp] mkMapA lookMap updMap updV updMapD bsX bsD vcellsL bcells bmapB fstr fnil cvtA arrA rangeA entA kmatch findF keyOK bs0A runOps guardA stepX pinA frzA callF ownF yldA inlA ans feq feqs feqs.feqs' keepN ownR upEnv dnEnv loEnv St.enter St.leave bindP stepA popA opd constV lk put rm asgA lenA indexA fieldA intN loadA look padd pres opds parts fbin fint fcmp unA nonnil nrm fin kpIf mentE inB memN popt subsl capOf clipOf TK.agg
attribute [simp] St.mk' St.drop St.kill St.ren renB killB allocA boxA vcells frees bsA mkA elemOf appA dstA dropO srcA listOf stoA vone setEl buildA placesA fillV splice partA aggCells mkAgg allF mkFn zgood cellsOK nagg self cellsOf flat flat1 slotsA retsA retA frz frzL callX callI callA callB srtA fnOf argsA addRes nm packV opds elemA elemsA addA addAsg addApp addBs0 addCall addRs addBs addMk hdX stoB stoE lateD lateC drawP drawA prep pk rmL mentAny blkMent addO dsts dstsP over1 makers maker unsetS skipS
@[simp] theorem ment_top (n s:Nat):ment (n+1) s .top=false:=rfl
@[simp] theorem ment_fv (n s:Nat) (ro:Bool) (x:FV):ment (n+1) s (.fv ro x)=false:=rfl
@[simp] theorem ment_own (n s t o l:Nat):ment (n+1) s (.own t o l)=(t==s):=rfl
@[simp] theorem ment_ptr (n s t o:Nat):ment (n+1) s (.ptr t o)=(t==s):=rfl
@[simp] theorem ment_pel (n s t i j:Nat):ment (n+1) s (.pel t i j)=(t==s):=rfl
@[simp] theorem ment_map (n s t:Nat):ment (n+1) s (.map t)=(t==s):=rfl
@[simp] theorem ment_agg (n s:Nat) (cs:List V):ment (n+1) s (.agg cs)=cs.any (ment n s):=rfl
@[simp] theorem ment_tup (n s:Nat) (cs:List V):ment (n+1) s (.tup cs)=cs.any (ment n s):=rfl
@[simp] theorem ment_fn (n s:Nat) (f:Fn) (a b:List V):ment (n+1) s (.fn f a b)=(a.any (ment n s)||b.any (ment n s)):=rfl
@[simp] theorem killV_nil (v:V):killV [] v=v:=rfl
@[simp] theorem killV_top (ns:List Nat):killV ns .top = .top:=by unfold killV; split<;>rfl
@[simp] theorem killV_fv (ns:List Nat) (ro:Bool) (x:FV):killV ns (.fv ro x) = .fv ro x:=by simp [killV]
@[simp] theorem killV_own (ns:List Nat) (t o l:Nat):killV ns (.own t o l)=if ns.any (t==·)=true then .top else .own t o l:=by simp [killV]
@[simp] theorem killV_ptr (ns:List Nat) (t o:Nat):killV ns (.ptr t o)=if ns.any (t==·)=true then .top else .ptr t o:=by simp [killV]
@[simp] theorem killV_pel (ns:List Nat) (t i j:Nat):killV ns (.pel t i j)=if ns.any (t==·)=true then .top else .pel t i j:=by simp [killV]
@[simp] theorem killV_map (ns:List Nat) (t:Nat):killV ns (.map t)=if ns.any (t==·)=true then .top else .map t:=by simp [killV]
@[simp] theorem killV_agg (ns:List Nat) (cs:List V):killV ns (.agg cs)=if ns.any (fun s=>cs.any (ment 4 s))=true then .top else .agg cs:=by simp [killV]
@[simp] theorem killV_tup (ns:List Nat) (cs:List V):killV ns (.tup cs)=if ns.any (fun s=>cs.any (ment 4 s))=true then .top else .tup cs:=by simp [killV]
@[simp] theorem killV_fn (ns:List Nat) (f:Fn) (a b:List V):killV ns (.fn f a b)=if ns.any (fun s=>a.any (ment 4 s)||b.any (ment 4 s))=true then .top else .fn f a b:=by simp [killV]
@[simp] theorem renV_top (s k n:Nat):renV s k (n+1) .top = .top:=rfl
@[simp] theorem renV_fv (s k n:Nat) (ro:Bool) (x:FV):renV s k (n+1) (.fv ro x) = .fv ro x:=rfl
@[simp] theorem renV_own (s k n t o l:Nat):renV s k (n+1) (.own t o l) = .own (if t=s then k else t) o l:=rfl
@[simp] theorem renV_ptr (s k n t o:Nat):renV s k (n+1) (.ptr t o) = .ptr (if t=s then k else t) o:=rfl
@[simp] theorem renV_pel (s k n t i j:Nat):renV s k (n+1) (.pel t i j) = .pel (if t=s then k else t) i j:=rfl
@[simp] theorem renV_map (s k n t:Nat):renV s k (n+1) (.map t) = .map (if t=s then k else t):=rfl
@[simp] theorem renV_agg (s k n:Nat) (cs:List V):renV s k (n+1) (.agg cs) = .agg (cs.map (renV s k n)):=rfl
@[simp] theorem renV_tup (s k n:Nat) (cs:List V):renV s k (n+1) (.tup cs) = .tup (cs.map (renV s k n)):=rfl
@[simp] theorem renV_fn (s k n:Nat) (f:Fn) (a b:List V):renV s k (n+1) (.fn f a b) = .fn f (a.map (renV s k n)) (b.map (renV s k n)):=rfl
@[simp] theorem ints_getElem (l:List Int) (i:Nat) (h:i < (ints l).length):(ints l)[i] = .int .i64 (l[i]'(by simpa using h)):=by simp [ints]
@[simp] theorem argsA_fv (σ:St) (ro:Bool):∀ caps:List FV,argsA σ (caps.map (.fv ro))=some (caps.map fun y=>(ro,y))
 | []=>rfl
 | x :: r=>by simp [argsA_fv σ ro r]
end Go.Proofs.YtejodhjhddnbeaaDoor.E
