/-
  The engine: a symbolic run of a body, proved sound once for any program. Conditions: none.
-/
import Derived.Test.YtejodhjhddnbeaaDoorZ02
import Derived.Laws.CopyOwn
import Derived.CallsIn
set_option linter.unusedVariables false
set_option linter.unusedSimpArgs false
namespace Go.Proofs.YtejodhjhddnbeaaDoor.E
open Go Go.RowKit
structure Src (Fz:Nat->Prop) (w:World) (sz:Nat) (ys:List FV) (ad:Option Addr) (g:Nat->Value):Prop where
 cell:∀ k,k < ys.length*sz->∃ b,ad=some b/\w.cell? (b.add k)=some (g k)
 ok:∀ (i:Nat) (y:FV),ys[i]? = some y->cellsOK sz y=true
 rep:∀ (i:Nat) (y:FV) (j:Nat) (z:FV),ys[i]? = some y->(cellsOf y)[j]? = some z->RepF Fz w z (g (i*sz+j))
theorem Src.one {Fz : Nat → Prop} {w : World} {sz : Nat} {ys : List FV} {ad : Option Addr} {g : Nat → Value} (h : Src Fz w sz ys ad g) {k : Nat} (hk : k < ys.length * sz) : (g k).oneCell' = true := by
  have hsz : 0 < sz := by rcases Nat.eq_zero_or_pos sz with e | e; · subst e; simp at hk
                          · exact e
  have hi : k / sz < ys.length := (Nat.div_lt_iff_lt_mul hsz).2 hk
  have hok := h.ok _ _ (List.getElem?_eq_getElem hi)
  have hj : k % sz < (cellsOf ys[k / sz]).length := by rw [ok_len hok]; exact Nat.mod_lt _ hsz
  have hr := h.rep _ _ _ _ (List.getElem?_eq_getElem hi) (List.getElem?_eq_getElem hj)
  have e : k / sz * sz + k % sz = k := by rw [Nat.mul_comm]; exact Nat.div_add_mod k sz
  rw [e] at hr
  exact hr.one (ok_nagg hok (List.getElem?_eq_getElem hj))
def listOf (n:Nat) (g:Nat->Value):List Value:=(List.range n).map g
theorem Src.first {P:Program} {Fz:Nat->Prop} {w:World} {sz:Nat} {ys:List FV} {ad:Option Addr} {g:Nat->Value} (h:Src Fz w sz ys ad g) (w':World) (hw:∀ a,w'.cell? a=w.cell? a) (c:Nat) :
  (Builtin.firstCells sz ys.length (.slice ad ys.length c)).run P w' = .ok (listOf (ys.length*sz) g).toArray w':=by
 cases ad with
 | none =>
  have:ys.length*sz=0:=by
   rcases Nat.eq_zero_or_pos (ys.length*sz) with e | e
   ·exact e
   ·obtain ⟨b,hb,_⟩:=h.cell 0 e; simp at hb
  simp [Builtin.firstCells,this,listOf]
 | some b =>
  simp only [Builtin.firstCells]
  refine run_loadCells' g b w' _ fun j hj=>?_
  obtain ⟨b',hb,hc⟩:=h.cell j hj
  simp only [Option.some.injEq] at hb; subst hb
  rw [hw]; exact hc
theorem getD_listOf {n k:Nat} (g:Nat->Value) (h:k < n):(listOf n g)[k]? = some (g k):=by simp [listOf,h]
def srcA (σ:St) (sz:Nat):V->Option (List FV)
 | .own s off len=>match lk s σ.blk with
  | some (.arr sz' xs)=>if sz'=sz then some ((xs.drop off).take len) else none
  | _=>none
 | .fv ro (.sl _ sz' xs)=>if (!ro||xs.all flat)=true/\(sz'==sz||xs.isEmpty)=true then some xs else none
 | _=>none
section
variable {C:Base} {σ:St} {a:Act} {w w':World} {μ:Mu} {Fz Fy:Nat->Prop} {G:Pg}
theorem flat_of_flat {x y:FV} (h:flat x=true) {j:Nat} (hj:(cellsOf x)[j]? = some y):flat y=true:=by
 cases x with
 | agg cs =>
  simp only [flat,List.all_eq_true] at h
  have:=h y (List.mem_of_getElem? hj)
  cases y<;>simp_all [flat,flat1]
 | _ =>
  simp only [cellsOf] at hj
  cases j with
  | zero=>simp at hj; subst hj; exact h
  | succ j=>simp at hj
theorem srcA_sound (h : Sim C σ a w μ Fz Fy) {sz : Nat} {x : V} {ys : List FV} (hx : srcA σ sz x = some ys) {v : Value} (hv : RepV μ (shs σ) Fz Fy w x v) :
    ∃ ad c g,v = .slice ad ys.length c ∧ ys.length ≤ c ∧ Src Fz w sz ys ad g := by
  unfold srcA at hx
  split at hx
  · rename_i s off len
    split at hx
    · rename_i sz' xs hb
      split at hx
      · rename_i e
        subst e
        simp only [Option.some.injEq] at hx; subst hx
        cases hv with
        | ownx _ _ _ _ hx => simp [shs,hb] at hx
        | own _ _ _ ad cap sz' n' hs hn hc hm =>
        simp only [shs,hb,Option.map_some,shp,Option.some.injEq,Prod.mk.injEq] at hs
        obtain ⟨rfl,rfl⟩ := hs
        have hlen : ((xs.drop off).take len).length = len := by simp; omega
        by_cases hl : len = 0
        · subst hl
          refine ⟨ad,cap,fun _ => undef,by simp,by simp,⟨?_,?_,?_⟩⟩ <;> simp
        · rcases hm with hm | ⟨b,base,hm,rfl,hroom⟩
          · omega
          · have hB := h.blk s _ hb
            cases hB with
            | nil => simp at hn; omega
            | arr _ _ b' base' c e hm' hh hcc hsz hr =>
            rw [hm] at hm'
            simp only [Option.some.injEq,Prod.mk.injEq] at hm'
            obtain ⟨rfl,rfl⟩ := hm'
            refine ⟨_,cap,fun k => c.getD (base + off * sz' + k) undef,by rw [hlen],by omega,⟨?_,?_,?_⟩⟩
            · intro k hk
              rw [hlen] at hk
              refine ⟨_,rfl,?_⟩
              rw [add_zero' _ rfl]
              have : (off + len) * sz' ≤ xs.length * sz' := Nat.mul_le_mul_right _ hn
              rw [Nat.add_mul] at this
              exact cell_of_heap hh (by simp only; omega)
            · intro i y hy; exact hsz _ y (drop_take_get hy).1
            · intro i y j z hy hz
              have := hr _ y j z (drop_take_get hy).1 hz
              have e1 : base + off * sz' + (i * sz' + j) = base + ((off + i) * sz' + j) := by rw [Nat.add_mul]; omega
              simp only [e1]; exact this
      · simp at hx
    · simp at hx
  · rename_i ro clip sz' xs
    split at hx
    · rename_i hcond
      obtain ⟨h1,h2⟩ := hcond
      simp only [Option.some.injEq] at hx; subst hx
      cases hv with
      | fv _ _ _ hv =>
      cases hv with
      | sl0 _ _ ad cap hcl => exact ⟨ad,cap,fun _ => undef,by simp,by simp,⟨by simp,by simp,by simp⟩⟩
      | sl _ _ _ b o len cap us hlen hcap hclip hb hsz hc hr =>
        subst hlen
        have hszz : sz' = sz ∨ xs = [] := by simpa using h2
        rcases hszz with rfl | rfl
        · refine ⟨_,cap,fun k => us (k / sz') (k % sz'),rfl,hcap,⟨?_,hsz,?_⟩⟩
          · intro k hk
            refine ⟨_,rfl,?_⟩
            rw [add_zero' _ rfl]
            have hp : 0 < sz' := by rcases Nat.eq_zero_or_pos sz' with e | e; · subst e; simp at hk
                                    · exact e
            have hi : k / sz' < xs.length := (Nat.div_lt_iff_lt_mul hp).2 hk
            have hok := hsz _ _ (List.getElem?_eq_getElem hi)
            have hj : k % sz' < (cellsOf xs[k / sz']).length := by rw [ok_len hok]; exact Nat.mod_lt _ hp
            have := hc _ _ _ _ (List.getElem?_eq_getElem hi) (List.getElem?_eq_getElem hj)
            rwa [show k / sz' * sz' + k % sz' = k from by rw [Nat.mul_comm]; exact Nat.div_add_mod k sz'] at this
          · intro i y j z hy hz
            have hjl : j < sz' := by rw [← ok_len (hsz _ _ hy)]; exact (List.getElem?_eq_some_iff.1 hz).1
            have e1 : (i * sz' + j) / sz' = i := by rw [Nat.mul_comm,Nat.mul_add_div (by omega),Nat.div_eq_of_lt hjl,Nat.add_zero]
            have e2 : (i * sz' + j) % sz' = j := by rw [Nat.mul_comm,Nat.mul_add_mod,Nat.mod_eq_of_lt hjl]
            simp only [e1,e2]
            have := hr _ y j z hy hz
            cases ro with
            | false => exact this
            | true =>
              simp only [Bool.not_true,Bool.false_or,List.all_eq_true] at h1
              exact this.of_flat (flat_of_flat (h1 y (List.mem_of_getElem? hy)) hz)
        · exact ⟨_,cap,fun _ => undef,rfl,hcap,⟨by simp,by simp,by simp⟩⟩
    · simp at hx
  · simp at hx
def storesAt (ad:Option Addr) (n:Nat) (vs:List Value):Sem Unit :=
 match ad with
 | some a=>storeCells (a.add n) vs
 | none=>pure ()
theorem run_append_src {P:Program} {t ty e:TypeId} {i:TypeInfo} {z:Value} (ht:P.underlying t=some (.slice e)) (hi:P.info? e=some i) (hz:i.zero=some z) {Z1 Z2:Nat->Prop}
  {xs ys:List FV} {ad bd:Option Addr} {g1 g2:Nat->Value} (h1:Src Z1 w i.size xs ad g1) (h2:Src Z2 w i.size ys bd g2) (cap c:Nat) (hcap:xs.length<=cap) (hbytes:(xs.length+ys.length)*i.bytes<=140737488355328) (hb0:i.bytes≠0) :
  (xs.length+ys.length<=cap/\(Builtin.append_ #[t,t] ty #[.slice ad xs.length cap,.slice bd ys.length c]).run P w =
   ((storesAt ad (xs.length*i.size) (listOf (ys.length*i.size) g2)).run P w).andThen fun _ w'=>.ok (.slice ad (xs.length+ys.length) cap) w') ∨
  (cap < xs.length+ys.length/\∃ cap',xs.length+ys.length<=cap'/\(Builtin.append_ #[t,t] ty #[.slice ad xs.length cap,.slice bd ys.length c]).run P w =
   .ok (.slice (some ⟨w.heap.size,0,none⟩) (xs.length+ys.length) cap') (w.drew.alloc (.cells ((listOf (xs.length*i.size) g1).toArray++(listOf (ys.length*i.size) g2).toArray++Builtin.zeroCells z.cells (cap'-(xs.length+ys.length))) e))):=by
 by_cases hr:xs.length+ys.length<=cap
 ·left
  refine ⟨hr,?_⟩
  have hf:=h2.first (P:=P) w (fun _=>rfl) c
  cases ad<;>simp [Builtin.append_,run_underlying ht,sizeOf,typeInfo,hi,Builtin.lenOf,hr,hf,storesAt]
 ·right
  refine ⟨by omega,grownCap w (xs.length+ys.length) cap e,grownCap_ge w _ _ _,?_⟩
  have hf1:=h1.first (P:=P) w.drew (fun _=>rfl) cap
  have hf2:=h2.first (P:=P) w.drew (fun _=>rfl) c
  have hfit:=growslice_fits (need:=xs.length+ys.length) (old:=cap) (bytes:=i.bytes) (by omega) hbytes
  have h48':¬ (281474976710656 < Builtin.nextslicecap (xs.length+ys.length) cap*i.bytes):=by omega
  simp [Builtin.append_,run_underlying ht,sizeOf,typeInfo,zeroValue,hi,hz,Builtin.lenOf,hr,hb0,h48',Question.forced,hf1,hf2,newRow,grownCap]
  have e:∀ (A B:List Value) (Z:Array Value),A.toArray++(B.toArray++Z)=(A++B).toArray++Z:=by intro A B Z; apply Array.ext'; simp
  rw [e]
def dstA (σ:St) (sz:Nat) (x:V) (more:Bool):Option (Option Nat×List FV) :=
 match x with
 | .own s off len=>match lk s σ.blk with
  | some (.arr sz' xs)=>if sz'=sz/\off+len=xs.length then some (some s,xs.drop off) else none
  | _=>none
 | .fv ro (.sl true sz' xs)=>if (!ro||xs.all flat)=true/\(sz'==sz||xs.isEmpty)=true/\(xs.isEmpty||more)=true then some (none,xs) else none
 | _=>none
def dropO (σ:St):Option Nat->St
 | some s=>σ.drop s
 | none=>σ
def appA (G:Pg) (σ:St) (d t:Nat) (x y:V):Option St :=
 match lk t G.tbl with
 | some ⟨_,_,_,.slice e⟩=>match lk e G.tbl with
  | some ti=>match srcA σ ti.size y with
   | some ys=>match dstA σ ti.size x (!ys.isEmpty) with
    | some (s,xs)=>if (xs.length+ys.length)*ti.bytes<=140737488355328/\ti.bytes≠0 then some ((dropO σ s).mk' d (.arr ti.size (xs++ys)) (.own d 0 (xs.length+ys.length))) else none
    | none=>none
   | none=>none
  | none=>none
 | _=>none
theorem below_drew_alloc (w:World) (o:Obj):Below w.heap.size w (w.drew.alloc o):=((Below.refl _ w).drew).alloc (Nat.le_refl _) o
theorem get_app {α:Type} {l1 l2:List α} {i:Nat} {x:α} (h:(l1++l2)[i]? = some x):(i < l1.length/\l1[i]? = some x)\/(l1.length<=i/\l2[i-l1.length]? = some x):=by
 by_cases hi:i < l1.length
 ·rw [List.getElem?_append_left hi] at h; exact .inl ⟨hi,h⟩
 ·rw [List.getElem?_append_right (by omega)] at h; exact .inr ⟨by omega,h⟩
theorem rep_two {Z1 Z2 Z:Nat->Prop} {w2:World} {sz base:Nat} {xs ys:List FV} {ad bd:Option Addr} {g1 g2:Nat->Value} (h1:Src Z1 w sz xs ad g1) (h2:Src Z2 w sz ys bd g2) (c:Array Value)
  (hz1:∀ x v,RepF Z1 w x v->RepF Z w2 x v) (hz2:∀ x v,RepF Z2 w x v->RepF Z w2 x v)
  (hc1:∀ k,k < xs.length*sz->c.getD (base+k) undef=g1 k) (hc2:∀ k,k < ys.length*sz->c.getD (base+(xs.length*sz+k)) undef=g2 k) :
  (∀ (i:Nat) (x:FV),(xs++ys)[i]? = some x->cellsOK sz x=true) ∧
  ∀ (i:Nat) (x:FV) (j:Nat) (y:FV),(xs++ys)[i]? = some x->(cellsOf x)[j]? = some y->RepF Z w2 y (c.getD (base+(i*sz+j)) undef):=by
 refine ⟨fun i x hi=>?_,fun i x j y hi hj=>?_⟩
 ·rcases get_app hi with ⟨_,h⟩ | ⟨_,h⟩
  ·exact h1.ok _ _ h
  ·exact h2.ok _ _ h
 ·rcases get_app hi with ⟨hlt,h⟩ | ⟨hge,h⟩
  ·have hjl:j < sz:=by rw [<-ok_len (h1.ok _ _ h)]; exact (List.getElem?_eq_some_iff.1 hj).1
   have hk:i*sz+j < xs.length*sz:=by
    have:(i+1)*sz<=xs.length*sz:=Nat.mul_le_mul_right _ hlt
    rw [Nat.add_mul] at this; omega
   rw [hc1 _ hk]
   exact hz1 _ _ (h1.rep _ _ _ _ h hj)
  ·have hjl:j < sz:=by rw [<-ok_len (h2.ok _ _ h)]; exact (List.getElem?_eq_some_iff.1 hj).1
   have hil:=(List.getElem?_eq_some_iff.1 h).1
   have hk:(i-xs.length)*sz+j < ys.length*sz:=by
    have:(i-xs.length+1)*sz<=ys.length*sz:=Nat.mul_le_mul_right _ hil
    rw [Nat.add_mul] at this; omega
   have e:i*sz+j=xs.length*sz+((i-xs.length)*sz+j):=by
    have:i*sz=(xs.length+(i-xs.length))*sz:=by congr 1; omega
    rw [this,Nat.add_mul]; omega
   rw [e,hc2 _ hk]
   exact hz2 _ _ (h2.rep _ _ _ _ h hj)
theorem getD_two (l1 l2:List Value) (r:Array Value) (k:Nat):(k < l1.length->(l1.toArray++l2.toArray++r).getD k undef=l1.getD k undef)/\(k < l2.length->(l1.toArray++l2.toArray++r).getD (l1.length+k) undef=l2.getD k undef):=by
 refine ⟨fun h=>?_,fun h=>?_⟩
 ·have h':k < l1.length+l2.length:=by omega
  simp [Array.getD_eq_getD_getElem?,Array.getElem?_append,h,h']
 ·simp [Array.getD_eq_getD_getElem?,Array.getElem?_append,h]
theorem blk_dropO {s:Option Nat} {t:Nat} (h:lk t (dropO σ s).blk≠none):s≠some t/\lk t σ.blk≠none:=by
 cases s with
 | none=>exact ⟨by simp,h⟩
 | some s =>
  simp only [dropO,St.drop,lk_rm] at h
  by_cases e:t=s
  ·simp [e] at h
  ·simp only [e,if_false] at h
   exact ⟨fun x=>e (by simpa using x.symm),h⟩
theorem Sim.dropO (h:Sim C σ a w μ Fz Fy) (s:Option Nat):Sim C (dropO σ s) a w μ Fz Fy:=by
 cases s with
 | none=>exact h
 | some s=>exact h.drop s
theorem dstA_sound (h:Sim C σ a w μ Fz Fy) {sz:Nat} {x:V} {more:Bool} {s:Option Nat} {xs:List FV} (hx:dstA σ sz x more=some (s,xs)) {v:Value} (hv:RepV μ (shs σ) Fz Fy w x v) :
  ∃ ad cap g,v = .slice ad xs.length cap/\xs.length<=cap/\Src Fz w sz xs ad g ∧
   ((cap=xs.length/\(xs=[]\/more=true))\/∃ (s' b base0 base:Nat) (c:Array Value) (e:TypeId),s=some s'/\lk s' σ.blk≠none/\μ s'=some (b,base0)/\ad=some ⟨b,base,none⟩/\w.heap[b]? = some (.cells c e (0,0))/\base+cap*sz<=c.size):=by
 unfold dstA at hx
 split at hx
 ·rename_i s' off len
  split at hx
  ·rename_i sz' xs' hb
   split at hx
   ·rename_i hcond
    obtain ⟨rfl,hlen⟩:=hcond
    simp only [Option.some.injEq,Prod.mk.injEq] at hx
    obtain ⟨rfl,rfl⟩:=hx
    have hsrc:srcA σ sz' (.own s' off len)=some (xs'.drop off):=by
     simp only [srcA,hb,if_true]
     congr 1
     exact List.take_of_length_le (by simp; omega)
    obtain ⟨ad,c,g,hve,hc,hs⟩:=srcA_sound h hsrc hv
    refine ⟨ad,c,g,hve,hc,hs,?_⟩
    subst hve
    cases hv with
    | ownx _ _ _ _ hx=>simp [shs,hb] at hx
    | own _ _ _ ad cap sz' n' hs' hn hcap hm =>
    simp only [shs,hb,Option.map_some,shp,Option.some.injEq,Prod.mk.injEq] at hs'
    obtain ⟨rfl,rfl⟩:=hs'
    rcases hm with hm | ⟨b,base,hm,rfl,cc,e,hcc,hroom⟩
    ·left
     have:(xs'.drop off).length=0:=by omega
     exact ⟨by omega,.inl (List.eq_nil_of_length_eq_zero this)⟩
    ·right
     refine ⟨s',b,base,base+off*sz',cc,e,rfl,by simp [hb],hm,rfl,hcc,?_⟩
     rw [Nat.add_mul] at hroom; omega
   ·simp at hx
  ·simp at hx
 ·rename_i ro sz' xs'
  split at hx
  ·rename_i hcond
   obtain ⟨h1,h2,h3⟩:=hcond
   simp only [Option.some.injEq,Prod.mk.injEq] at hx
   obtain ⟨rfl,rfl⟩:=hx
   have hsrc:srcA σ sz (.fv ro (.sl true sz' xs'))=some xs':=by simp only [srcA]; rw [if_pos ⟨h1,h2⟩]
   obtain ⟨ad,c,g,hve,hc,hs⟩:=srcA_sound h hsrc hv
   refine ⟨ad,c,g,hve,hc,hs,.inl ⟨?_,?_⟩⟩
   ·subst hve
    cases hv with
    | fv _ _ _ hv =>
    cases hv with
    | sl0 _ _ _ _ hcl=>exact hcl rfl
    | sl _ _ _ b o len cap us hlen hcap hclip=>exact hclip rfl
   ·simpa using h3
  ·simp at hx
 ·simp at hx
theorem appA_sound (hT:TOk G) (h:Sim C σ a w μ Fz Fy) {d t:Nat} (hd:d < C.N) {x y:V} {σ':St} (hs:appA G σ d t x y=some σ') {v u:Value} (hv:RepV μ (shs σ) Fz Fy w x v) (hu:RepV μ (shs σ) Fz Fy w y u) (ty:TypeId) :
  ∃ r w' μ',(Builtin.append_ #[t,t] ty #[v,u]).run G.P w = .ok r w'/\Sim C σ' (a.put (some d) r) w' μ' Fz Fy:=by
 unfold appA at hs
 split at hs
 ·rename_i s1 s2 s3 e heq
  obtain ⟨dd,hd',hk⟩:=(hT t _ heq).under
  simp only [KindIs] at hk; subst hk
  split at hs
  ·rename_i ti hti
   split at hs
   ·rename_i ys hys
    split at hs
    ·rename_i s xs hxs
     split at hs
     ·rename_i hb
      obtain ⟨hb1,hb2⟩:=hb
      simp only [Option.some.injEq] at hs; subst hs
      obtain ⟨i,hi,his,hib,z,hz,hzl⟩:=(hT e ti hti).info
      have hzs:z.cells.size=ti.size:=by rw [<-Array.length_toList,hzl,List.length_map,(hT e ti hti).zsize]
      obtain ⟨bd,c,g2,rfl,hc2,hsrc2⟩:=srcA_sound h hys hu
      obtain ⟨ad,cap,g1,rfl,hcap,hsrc1,hwhere⟩:=dstA_sound h hxs hv
      have hdrop:=h.dropO s
      rw [<-his] at hsrc1 hsrc2
      rcases run_append_src (P:=G.P) (ty:=ty) hd' hi hz hsrc1 hsrc2 cap c hcap (by rw [hib]; exact hb1) (by rw [hib]; exact hb2) with ⟨hle,hrun⟩ | ⟨hgt,cap',hcap',hrun⟩
      ·
       rcases hwhere with ⟨hce,hor⟩ | ⟨s',b,base0,base,cc,e',rfl,hp,hm,rfl,hcc,hroom⟩
       ·have hy0:ys=[]:=List.eq_nil_of_length_eq_zero (by omega)
        subst hy0
        have hx0:xs=[]:=by
         rcases hor with h | h
         ·exact h
         ·simp at h
        subst hx0
        have hrun':(Builtin.append_ #[t,t] ty #[.slice ad 0 cap,.slice bd 0 c]).run G.P w = .ok (.slice ad 0 cap) w:=by
         have:(storesAt ad (([]:List FV).length*i.size) (listOf (([]:List FV).length*i.size) g2)).run G.P w = .ok () w:=by
          cases ad<;>simp [storesAt,listOf,storeCells]
         rw [this] at hrun
         simpa using hrun
        refine ⟨_,w,setMu μ d none,hrun',hdrop.made hd (Stays.of_below hdrop (Below.refl _ w)) none _ _ _ (by simp) ?_ ?_⟩
        ·exact .nil _
        ·refine .own d 0 0 ad cap ti.size 0 ?_ (by simp) (by omega) (.inl ?_)
         ·rw [shs_mk]; simp [shp]
         ·simpa using hce
       ·
        have hlive:=h.live s' hp b base0 hm
        have hone:∀ u∈listOf (ys.length*i.size) g2,u.oneCell'=true:=by
         intro u hu
         obtain ⟨k,hk,rfl⟩:=List.mem_map.1 hu
         exact hsrc2.one (List.mem_range.1 hk)
        have hlen:(listOf (ys.length*i.size) g2).length=ys.length*i.size:=by simp [listOf]
        have hfit:base+xs.length*i.size+0+(listOf (ys.length*i.size) g2).length<=cc.size:=by
         rw [hlen]
         have:(xs.length+ys.length)*i.size<=cap*i.size:=Nat.mul_le_mul_right _ hle
         rw [Nat.add_mul] at this
         rw [his] at this ⊢
         omega
        have hst:=run_storeCells_at G.P b (base+xs.length*i.size) e' (listOf (ys.length*i.size) g2) 0 cc w hcc hfit hone
        simp only [Nat.add_zero] at hst
        have hsa:storesAt (some ⟨b,base,none⟩) (xs.length*i.size) (listOf (ys.length*i.size) g2)=storeCells ⟨b,base+xs.length*i.size,none⟩ (listOf (ys.length*i.size) g2):=by
         show storeCells ((⟨b,base,none⟩:Addr).add _) _=_
         rw [add_zero' ⟨b,base,none⟩ rfl]
        rw [hsa,hst,Result.andThen_ok] at hrun
        generalize hnew:(cc.toList.take (base+xs.length*i.size)++listOf (ys.length*i.size) g2++cc.toList.drop (base+xs.length*i.size+(listOf (ys.length*i.size) g2).length)).toArray=nc at hrun
        have hncs:nc.size=cc.size:=by rw [<-hnew]; simp; omega
        have hheap:(w.setRow b nc).heap[b]? = some (.cells nc e' (0,0)):=setRow_heap w b cc nc e' (0,0) hcc
        have hother:∀ r,r≠b->(w.setRow b nc).heap[r]? = w.heap[r]?:=fun r hr=>setRow_other w b r nc hr
        have hstays:Stays C (dropO σ (some s')) w (w.setRow b nc) μ Fy:=by
         refine { keeps:=fun r x e fr hx=>?_,fixed:=fun r hr=>hother r (fun e=>hlive.2.2 (e▸hr)),own:=fun t ht r base hr=>hother r (fun e=>?_),below:=BelowX.setRow h.below hlive.1 hcc nc hncs,size:=by simp,rest:=fun r hr=>hother r (fun e=>(h.fm r hr).2.2 s' hp base0 (e▸hm)),drawn:=Nat.le_refl _ }
         ·by_cases er:r=b
          ·subst er
           rw [hcc] at hx
           simp only [Option.some.injEq,Obj.cells.injEq] at hx
           obtain ⟨rfl,rfl,rfl⟩:=hx
           exact ⟨nc,hheap,hncs⟩
          ·exact ⟨x,(hother r er).trans hx,rfl⟩
         ·obtain ⟨k1,k2⟩:=blk_dropO ht
          exact h.inj t s' k2 hp (fun e=>k1 (by rw [e])) r base b base0 hr hm e
        have hg1:∀ k,k < xs.length*i.size->nc.getD (base+k) undef=g1 k:=by
         intro k hk
         obtain ⟨ad',had,hcell⟩:=hsrc1.cell k hk
         simp only [Option.some.injEq] at had; subst had
         rw [add_zero' _ rfl] at hcell
         simp only [World.cell?,hcc] at hcell
         have hlt:base+k < cc.size:=by
          rw [his] at hk
          have:xs.length*ti.size<=cap*ti.size:=Nat.mul_le_mul_right _ hcap
          omega
         have e1:nc[base+k]? = cc[base+k]?:=by
          rw [<-hnew]
          simp only [List.getElem?_toArray,List.append_assoc]
          rw [List.getElem?_append_left (by simp; omega),List.getElem?_take_of_lt (by omega)]
          simp
         simp only [Option.isSome_none,Bool.false_eq_true,if_false] at hcell
         simp [Array.getD_eq_getD_getElem?,e1,hcell]
        have hg2:∀ k,k < ys.length*i.size->nc.getD (base+(xs.length*i.size+k)) undef=g2 k:=by
         intro k hk
         have hlt:base+xs.length*i.size<=cc.size:=by omega
         have e1:nc[base+(xs.length*i.size+k)]? = some (g2 k):=by
          rw [<-hnew]
          simp only [List.getElem?_toArray,List.append_assoc]
          rw [List.getElem?_append_right (by simp; omega),List.getElem?_append_left (by simp [listOf]; omega)]
          have:base+(xs.length*i.size+k)-(cc.toList.take (base+xs.length*i.size)).length=k:=by simp; omega
          rw [this]
          exact getD_listOf g2 hk
         simp [Array.getD_eq_getD_getElem?,e1]
        have hzmono:∀ x v,RepF Fz w x v->RepF Fz (w.setRow b nc) x v:=fun x v hx=>hx.mono (fun _ x=>x) (fun r hr=>hstays.fixed r (h.zy r hr))
        have htwo:=rep_two (Z:=Fz) (w2:=w.setRow b nc) hsrc1 hsrc2 nc hzmono hzmono hg1 hg2
        rw [his] at htwo
        refine ⟨_,_,setMu μ d (some (b,base)),hrun,hdrop.made hd hstays (some (b,base)) _ _ _ ?_ ?_ ?_⟩
        ·intro r base' hr
         simp only [Option.some.injEq,Prod.mk.injEq] at hr
         obtain ⟨rfl,rfl⟩:=hr
         refine ⟨hlive.1,by simpa using hlive.2.1,⟨hlive.2.2,fun hM=>(h.fm b hM).2.2 s' hp base0 hm⟩,fun t ht hpt r' base'' hr' e=>?_⟩
         obtain ⟨k1,k2⟩:=blk_dropO hpt
         exact h.inj t s' k2 hp (fun e=>k1 (by rw [e])) r' base'' _ base0 hr' hm e
        ·refine .arr _ _ b base nc e' (by simp [setMu]) hheap ?_ htwo.1 htwo.2
         rw [hncs,List.length_append]
         have:(xs.length+ys.length)*ti.size<=cap*ti.size:=Nat.mul_le_mul_right _ hle
         omega
        ·refine .own d 0 _ _ cap ti.size (xs.length+ys.length) ?_ (by simp) hle (.inr ⟨b,base,by simp [setMu],by simp,nc,e',hheap,?_⟩)
         ·rw [shs_mk]; simp [shp]
         ·rw [hncs,Nat.zero_add]; exact hroom
      ·
       have hB:Below w.heap.size w (w.drew.alloc (.cells ((listOf (xs.length*i.size) g1).toArray++(listOf (ys.length*i.size) g2).toArray++Builtin.zeroCells z.cells (cap'-(xs.length+ys.length))) e)):=below_drew_alloc w _
       have hl1:(listOf (xs.length*i.size) g1).length=xs.length*i.size:=by simp [listOf]
       have hl2:(listOf (ys.length*i.size) g2).length=ys.length*i.size:=by simp [listOf]
       generalize hcc:(listOf (xs.length*i.size) g1).toArray++(listOf (ys.length*i.size) g2).toArray++Builtin.zeroCells z.cells (cap'-(xs.length+ys.length))=cc at hrun hB
       have hccs:cc.size=cap'*i.size:=by
        rw [<-hcc]
        simp only [Array.size_append,List.size_toArray,hl1,hl2,size_zeroCells,hzs,<-his,<-Nat.add_mul]
        congr 1; omega
       have hheap:(w.drew.alloc (.cells cc e)).heap[w.heap.size]? = some (.cells cc e (0,0)):=heap_new w.drew _
       have hg1:∀ k,k < xs.length*i.size->cc.getD (0+k) undef=g1 k:=by
        intro k hk
        rw [<-hcc,Nat.zero_add,(getD_two _ _ _ k).1 (by rw [hl1]; exact hk)]
        rw [List.getD_eq_getElem?_getD,getD_listOf g1 hk]; rfl
       have hg2:∀ k,k < ys.length*i.size->cc.getD (0+(xs.length*i.size+k)) undef=g2 k:=by
        intro k hk
        have:=(getD_two (listOf (xs.length*i.size) g1) (listOf (ys.length*i.size) g2) (Builtin.zeroCells z.cells (cap'-(xs.length+ys.length))) k).2 (by rw [hl2]; exact hk)
        rw [hl1] at this
        rw [<-hcc,Nat.zero_add,this,List.getD_eq_getElem?_getD,getD_listOf g2 hk]; rfl
       have hzmono:∀ x v,RepF Fz w x v->RepF Fz (w.drew.alloc (.cells cc e)) x v:=fun x v hx=>hx.mono (fun _ x=>x) (fun r hr=>hB.block r (h.yl r (h.zy r hr)))
       have htwo:=rep_two (Z:=Fz) (w2:=w.drew.alloc (.cells cc e)) hsrc1 hsrc2 cc hzmono hzmono hg1 hg2
       rw [his] at htwo hccs
       refine ⟨_,_,setMu μ d (some (w.heap.size,0)),hrun,hdrop.made hd (Stays.of_below hdrop hB) (some (w.heap.size,0)) _ _ _ ?_ ?_ ?_⟩
       ·intro r base hr
        simp only [Option.some.injEq,Prod.mk.injEq] at hr
        obtain ⟨rfl,rfl⟩:=hr
        refine ⟨.inl h.big,Nat.lt_of_lt_of_le (Nat.lt_succ_self _) (by show _<=(w.heap.push _).size; simp),⟨fun hy=>absurd (h.yl _ hy) (by omega),fun hy=>absurd (h.fm _ hy).1 (by omega)⟩,fun t ht hp r' base' hm'=>?_⟩
        have:=(hdrop.live t hp r' base' hm').2.1
        omega
       ·refine .arr _ _ w.heap.size 0 cc e (by simp [setMu]) hheap ?_ htwo.1 htwo.2
        rw [hccs,Nat.zero_add,List.length_append]
        exact Nat.mul_le_mul_right _ hcap'
       ·refine .own d 0 _ _ cap' ti.size (xs.length+ys.length) ?_ (by simp) hcap' (.inr ⟨w.heap.size,0,by simp [setMu],by simp,cc,e,hheap,?_⟩)
        ·rw [shs_mk]; simp [shp]
        ·rw [hccs]; simp
     ·simp at hs
    ·simp at hs
   ·simp at hs
  ·simp at hs
 ·simp at hs
end
theorem fill_all (sz:Nat):∀ (vs:List Value) (k:Nat) (cs:Array Value),(∀ v∈vs,v.cells.size=sz)->(k+vs.length)*sz<=cs.size ->
  ∃ cs',Instr.fill (fun i=>some (i*sz,sz)) cs ((vs.zipIdx k).map fun x=>(x.2,x.1))=some cs'/\cs'.size=cs.size ∧
   (∀ (i:Nat) (v:Value),vs[i]? = some v->∀ j,j < sz->cs'.getD ((k+i)*sz+j) undef=v.cells.getD j undef)/\∀ j,j < k*sz->cs'.getD j undef=cs.getD j undef
 | [],k,cs,_,_=>⟨cs,rfl,rfl,by simp,fun _ _=>rfl⟩
 | v :: vs,k,cs,hv,hl=>by
  have hvs:v.cells.size=sz:=hv v (by simp)
  simp only [List.length_cons] at hl
  have hk:k*sz+sz<=cs.size:=by
   have:(k+1)*sz<=(k+(vs.length+1))*sz:=Nat.mul_le_mul_right _ (by omega)
   rw [Nat.add_mul] at this; omega
  have hfold:=foldl_set (k*sz) v.cells.toList 0 cs (by rw [Array.length_toList,hvs]; omega)
  have e3:v.cells.zipIdx.foldl (fun cs (x:Value×Nat)=>cs.setIfInBounds (k*sz+x.2) x.1) cs=(v.cells.toList.zipIdx 0).foldl (fun cs (x:Value×Nat)=>cs.setIfInBounds (k*sz+x.2) x.1) cs:=by
   rw [<-Array.foldl_toList,Array.toList_zipIdx]
  simp only at hfold
  rw [<-e3] at hfold
  obtain ⟨f1,f2⟩:=hfold
  obtain ⟨cs',g1,g2,g3,g4⟩:=fill_all sz vs (k+1) (v.cells.zipIdx.foldl (fun cs (x:Value×Nat)=>cs.setIfInBounds (k*sz+x.2) x.1) cs) (fun u hu=>hv u (by simp [hu])) (by
   have:(k+1+vs.length)*sz=(k+(vs.length+1))*sz:=by congr 1; omega
   have e:(v.cells.zipIdx.foldl (fun cs (x:Value×Nat)=>cs.setIfInBounds (k*sz+x.2) x.1) cs).size=cs.size:=f1
   rw [e]; omega)
  refine ⟨cs',?_,g2.trans f1,fun i u hi j hj=>?_,fun j hj=>?_⟩
  ·simp only [List.zipIdx_cons,List.map_cons,Instr.fill]
   rw [if_neg (by rw [Bool.or_eq_true,decide_eq_true_eq,decide_eq_true_eq]; rw [hvs]; omega)]
   exact g1
  ·cases i with
   | zero =>
    simp only [List.getElem?_cons_zero,Option.some.injEq] at hi; subst hi
    rw [Nat.add_zero,g4 _ (by rw [Nat.add_mul]; omega)]
    have:(v.cells.zipIdx.foldl (fun cs (x:Value×Nat)=>cs.setIfInBounds (k*sz+x.2) x.1) cs).getD (k*sz+j) undef=_:=f2 (k*sz+j)
    rw [this,if_pos (by rw [Array.length_toList,hvs]; omega)]
    simp [Array.getD_eq_getD_getElem?,List.getD_eq_getElem?_getD]
   | succ i =>
    have:=g3 i u (by simpa using hi) j hj
    rwa [show k+1+i=k+(i+1) from by omega] at this
  ·rw [g4 _ (by rw [Nat.add_mul]; omega)]
   have:(v.cells.zipIdx.foldl (fun cs (x:Value×Nat)=>cs.setIfInBounds (k*sz+x.2) x.1) cs).getD j undef=_:=f2 j
   rw [this,if_neg (by omega)]
def bsA (G:Pg) (σ:St) (d t len:Nat) (ps:List (Nat×V)):Option St :=
 match lk t G.tbl with
 | some ⟨_,_,_,.slice e⟩=>match lk e G.tbl with
  | some ti=>match elemsA σ (ps.map (·.2)) with
   | some (ns,ys)=>if ps.map (·.1)=List.range len/\ys.all (cellsOK ti.size)=true/\len*ti.size<=16777216 then some ((frees σ ns).mk' d (.arr ti.size ys) (.own d 0 len)) else none
   | none=>none
  | none=>none
 | _=>none
section
variable {C:Base} {σ:St} {a:Act} {w w':World} {μ:Mu} {Fz Fy:Nat->Prop} {G:Pg}
theorem RepF.cells {Z:Nat->Prop} {x:FV} {v:Value} (h:RepF Z w x v):v.cells.size=(cellsOf x).length/\∀ (j:Nat) (y:FV),(cellsOf x)[j]? = some y->RepF Z w y (v.cells.getD j undef):=by
 cases x with
 | agg cs=>cases h with
  | agg _ vs hs hr=>exact ⟨hs,hr⟩
 | _ =>
  have e:v.cells=#[v]:=by cases h<;>first | rfl | (apply cells_of_one; assumption)
  rw [e]
  refine ⟨rfl,fun j y hj=>?_⟩
  cases j with
  | zero=>simp only [cellsOf,List.getElem?_cons_zero,Option.some.injEq] at hj; subst hj; exact h
  | succ j=>simp [cellsOf] at hj
theorem bsA_sound (hT:TOk G) (h:Sim C σ a w μ Fz Fy) {d t len:Nat} (hd:d < C.N) {ps:List (Nat×V)} {σ':St} (hs:bsA G σ d t len ps=some σ') (vs:Array (Nat×Value)) (hl:vs.size=ps.length)
  (hr:∀ (j:Nat) (x:Nat×V),ps[j]? = some x->∃ v,vs[j]? = some (x.1,v)/\RepV μ (shs σ) Fz Fy w x.2 v) :
  ∃ u w' μ' Fz' Fy',(Instr.buildSlice t len vs).run G.P w = .ok u w'/\Sim C σ' (a.put (some d) u) w' μ' Fz' Fy':=by
 unfold bsA at hs
 split at hs
 ·rename_i s1 s2 s3 e heq
  obtain ⟨dd,hd',hk⟩:=(hT t _ heq).under
  simp only [KindIs] at hk; subst hk
  split at hs
  ·rename_i ti hti
   split at hs
   ·rename_i ns ys hys
    split at hs
    ·rename_i hcond
     obtain ⟨h1,h2,h3⟩:=hcond
     simp only [Option.some.injEq] at hs; subst hs
     have hpl:ps.length=len:=by have:=congrArg List.length h1; simpa using this
     obtain ⟨e1,e2,e3⟩:=elemsA_sound h (vs:=vs.toList.map (·.2)) hys (by simp [hl]) (fun j x hj=>by
      simp only [List.getElem?_map,Option.map_eq_some_iff] at hj
      obtain ⟨p,hp,rfl⟩:=hj
      obtain ⟨v,hv,hrv⟩:=hr j p hp
      exact ⟨v,by simp [hv],hrv⟩)
     rw [List.length_map,hpl] at e2
     have hfz:=h.freezes (ns:=ns) e1
     rw [List.all_eq_true] at h2
     have hcells:∀ v∈vs.toList.map (·.2),v.cells.size=ti.size:=by
      intro v hv
      obtain ⟨j,hj,hjv⟩:=List.getElem_of_mem hv
      have hjl:j < ys.length:=by rw [e2,<-hpl,<-hl]; simpa using hj
      obtain ⟨v',hv',hrep⟩:=e3 j _ (List.getElem?_eq_getElem hjl)
      rw [List.getElem?_eq_getElem hj,hjv] at hv'
      simp only [Option.some.injEq] at hv'; subst hv'
      rw [hrep.cells.1]
      exact ok_len (h2 _ (List.getElem_mem hjl))
     have hz:=zero_cells (μ:=μ) (sh:=shs σ) (Fz:=Fz) (Fy:=Fy) (w:=w) hT hti
     obtain ⟨z,hz,_,hzs,_⟩:=hz
     have hzip:vs.toList=((vs.toList.map (·.2)).zipIdx 0).map fun x=>(x.2,x.1):=by
      apply List.ext_getElem?
      intro j
      by_cases hj:j < vs.size
      ·have hjp:j < ps.length:=by omega
       obtain ⟨v,hv,_⟩:=hr j ps[j] (List.getElem?_eq_getElem hjp)
       have hidx:ps[j].1=j:=by
        have:=congrArg (·[j]?) h1
        simp only [List.getElem?_map,List.getElem?_eq_getElem hjp,Option.map_some] at this
        rw [List.getElem?_range (by omega)] at this
        simpa using this
       rw [hidx] at hv
       simp [hv]
      ·rw [List.getElem?_eq_none (by simp; omega),List.getElem?_eq_none (by simp; omega)]
     obtain ⟨cs',f1,f2,f3,_⟩:=fill_all ti.size (vs.toList.map (·.2)) 0 ((Array.range (len*ti.size)).map ((if len*ti.size=0 then #[] else z.cells)[· % (if len*ti.size=0 then (#[]:Array Value) else z.cells).size]!)) hcells (by simp [hl,hpl])
     rw [<-hzip] at f1
     have hrun:(Instr.buildSlice t len vs).run G.P w = .ok (.slice (some ⟨w.heap.size,0,none⟩) len len) (w.alloc (.cells cs' e)):=by
      simp only [Instr.buildSlice,underlying,Sem.run_bind,run_program,Result.andThen_ok,hd',Sem.run_pure,run_sizeOf' hT hti,Sem.run_ite]
      rw [if_neg (by omega)]
      by_cases h0:len*ti.size=0
      ·simp only [h0,if_true] at f1
       simp only [h0,if_true,f1,newRow]
       simp
      ·simp only [h0,if_false] at f1
       simp only [h0,if_false,Result.andThen_ok,hz,f1,newRow,Sem.run_bind,Sem.run_pure]
       simp
     have hsize:cs'.size=len*ti.size:=by rw [f2]; simp
     refine ⟨_,_,_,_,_,hrun,hfz.made hd (stays_alloc hfz _) (some (w.heap.size,0)) _ _ _ (new_free hfz _) ?_ ?_⟩
     ·refine .arr _ _ w.heap.size 0 cs' e (by simp [setMu]) (heap_new _ _) (by rw [hsize,e2]; simp) (fun i x hi=>h2 x (List.mem_of_getElem? hi)) fun i x j y hi hj=>?_
      obtain ⟨v,hv,hrep⟩:=e3 i x hi
      have hjl:j < ti.size:=by rw [<-ok_len (h2 x (List.mem_of_getElem? hi))]; exact (List.getElem?_eq_some_iff.1 hj).1
      have:=f3 i v hv j hjl
      rw [Nat.zero_add] at this
      rw [Nat.zero_add,this]
      exact (hrep.cells.2 j y hj).mono (fun _ x=>x) fun b hb=>(stays_alloc hfz _).fixed b (hfz.zy b hb)
     ·refine .own d 0 len _ len ti.size ys.length ?_ (by omega) (Nat.le_refl _) (.inr ⟨w.heap.size,0,by simp [setMu],by simp,cs',e,heap_new _ _,?_⟩)
      ·rw [shs_mk]; simp [shp]
      ·rw [hsize]; simp
    ·simp at hs
   ·simp at hs
  ·simp at hs
 ·simp at hs
def vcellsL (σ:St) (sz:Nat):List V->Option (List V)
 | []=>some []
 | x :: r=>match vcells σ x,vcellsL σ sz r with
  | some c,some cs=>if c.length=sz then some (c++cs) else none
  | _,_=>none
theorem vcellsL_get {sz:Nat}:∀ {xs cs:List V},vcellsL σ sz xs=some cs->cs.length=xs.length*sz/\(∀ x∈xs,∃ c,vcells σ x=some c/\c.length=sz)/\∀ q y,cs[q]? = some y->∃ i j x c,q=i*sz+j/\j < sz/\xs[i]? = some x/\vcells σ x=some c/\c[j]? = some y
 | [],cs,h=>by simp only [vcellsL,Option.some.injEq] at h; subst h; simp
 | x :: xs,cs,h=>by
  simp only [vcellsL] at h
  split at h
  ·rename_i c cs' h1 h2
   split at h
   ·rename_i hl
    simp only [Option.some.injEq] at h; subst h
    obtain ⟨e1,e2,e3⟩:=vcellsL_get h2
    refine ⟨by simp [e1,hl,Nat.add_mul]; omega,fun y hy=>?_,fun q y hq=>?_⟩
    ·rcases List.mem_cons.1 hy with rfl | hy
     ·exact ⟨c,h1,hl⟩
     ·exact e2 y hy
    ·by_cases hlt:q < c.length
     ·rw [List.getElem?_append_left hlt] at hq
      exact ⟨0,q,x,c,by simp,by omega,rfl,h1,hq⟩
     ·rw [List.getElem?_append_right (by omega)] at hq
      obtain ⟨i,j,x',c',k1,k2,k3,k4,k5⟩:=e3 _ _ hq
      exact ⟨i+1,j,x',c',by rw [Nat.add_mul]; omega,k2,by simpa using k3,k4,k5⟩
   ·simp at h
  ·simp at h
def bsD (G:Pg) (σ:St) (d t len:Nat) (ps:List (Nat×V)):Option St :=
 match lk t G.tbl with
 | some ⟨_,_,_,.slice e⟩=>match lk e G.tbl with
  | some ti=>match vcellsL σ ti.size (ps.map (·.2)) with
   | some cs=>if ps.map (·.1)=List.range len/\len*ti.size<=16777216 then some (σ.mk' d (.lst ti.size len (cs.map (killV [d]))) (.own d 0 len)) else none
   | none=>none
  | none=>none
 | _=>none
theorem bsD_sound (hT:TOk G) (h:Sim C σ a w μ Fz Fy) {d t len:Nat} (hd:d < C.N) {ps:List (Nat×V)} {σ':St} (hs:bsD G σ d t len ps=some σ') (vs:Array (Nat×Value)) (hl:vs.size=ps.length)
  (hr:∀ (j:Nat) (x:Nat×V),ps[j]? = some x->∃ v,vs[j]? = some (x.1,v)/\RepV μ (shs σ) Fz Fy w x.2 v) :
  ∃ u w' μ' Fz' Fy',(Instr.buildSlice t len vs).run G.P w = .ok u w'/\Sim C σ' (a.put (some d) u) w' μ' Fz' Fy':=by
 unfold bsD at hs
 split at hs
 ·rename_i s1 s2 s3 e heq
  obtain ⟨dd,hd',hk⟩:=(hT t _ heq).under
  simp only [KindIs] at hk; subst hk
  split at hs
  ·rename_i ti hti
   split at hs
   ·rename_i cs hcs
    split at hs
    ·rename_i hcond
     obtain ⟨h1,h3⟩:=hcond
     simp only [Option.some.injEq] at hs; subst hs
     have hpl:ps.length=len:=by have:=congrArg List.length h1; simpa using this
     obtain ⟨g1,g2,g3⟩:=vcellsL_get hcs
     rw [List.length_map,hpl] at g1
     have hrep:∀ (i:Nat) (x:V),(ps.map (·.2))[i]? = some x->∃ v,(vs.toList.map (·.2))[i]? = some v/\RepV μ (shs σ) Fz Fy w x v:=fun i x hi=>by
      simp only [List.getElem?_map,Option.map_eq_some_iff] at hi
      obtain ⟨p,hp,rfl⟩:=hi
      obtain ⟨v,hv,hrv⟩:=hr i p hp
      exact ⟨v,by simp [hv],hrv⟩
     have hcells:∀ v∈vs.toList.map (·.2),v.cells.size=ti.size:=by
      intro v hv
      obtain ⟨j,hj,hjv⟩:=List.getElem_of_mem hv
      have hjl:j < (ps.map (·.2)).length:=by simp at hj ⊢; omega
      obtain ⟨v',hv',hrv⟩:=hrep j _ (List.getElem?_eq_getElem hjl)
      rw [List.getElem?_eq_getElem hj,hjv] at hv'
      simp only [Option.some.injEq] at hv'; subst hv'
      obtain ⟨c,hc,hcl⟩:=g2 _ (List.getElem_mem hjl)
      rw [(vcells_sound hc hrv).1,hcl]
     have hz:=zero_cells (μ:=μ) (sh:=shs σ) (Fz:=Fz) (Fy:=Fy) (w:=w) hT hti
     obtain ⟨z,hz,_,hzs,_⟩:=hz
     have hzip:vs.toList=((vs.toList.map (·.2)).zipIdx 0).map fun x=>(x.2,x.1):=by
      apply List.ext_getElem?
      intro j
      by_cases hj:j < vs.size
      ·have hjp:j < ps.length:=by omega
       obtain ⟨v,hv,_⟩:=hr j ps[j] (List.getElem?_eq_getElem hjp)
       have hidx:ps[j].1=j:=by
        have:=congrArg (·[j]?) h1
        simp only [List.getElem?_map,List.getElem?_eq_getElem hjp,Option.map_some] at this
        rw [List.getElem?_range (by omega)] at this
        simpa using this
       rw [hidx] at hv
       simp [hv]
      ·rw [List.getElem?_eq_none (by simp; omega),List.getElem?_eq_none (by simp; omega)]
     obtain ⟨cs',f1,f2,f3,_⟩:=fill_all ti.size (vs.toList.map (·.2)) 0 ((Array.range (len*ti.size)).map ((if len*ti.size=0 then #[] else z.cells)[· % (if len*ti.size=0 then (#[]:Array Value) else z.cells).size]!)) hcells (by simp [hl,hpl])
     rw [<-hzip] at f1
     have hrun:(Instr.buildSlice t len vs).run G.P w = .ok (.slice (some ⟨w.heap.size,0,none⟩) len len) (w.alloc (.cells cs' e)):=by
      simp only [Instr.buildSlice,underlying,Sem.run_bind,run_program,Result.andThen_ok,hd',Sem.run_pure,run_sizeOf' hT hti,Sem.run_ite]
      rw [if_neg (by omega)]
      by_cases h0:len*ti.size=0
      ·simp only [h0,if_true] at f1
       simp only [h0,if_true,f1,newRow]
       simp
      ·simp only [h0,if_false] at f1
       simp only [h0,if_false,Result.andThen_ok,hz,f1,newRow,Sem.run_bind,Sem.run_pure]
       simp
     have hsize:cs'.size=len*ti.size:=by rw [f2]; simp
     refine ⟨_,_,_,_,_,hrun,h.made hd (stays_alloc h _) (some (w.heap.size,0)) _ _ _ (new_free h _) ?_ ?_⟩
     ·refine .lst _ _ _ w.heap.size 0 cs' e (by simp [setMu]) (heap_new _ _) (by rw [List.length_map,g1]) (by rw [hsize]; simp) fun q y hq=>?_
      simp only [List.getElem?_map,Option.map_eq_some_iff] at hq
      obtain ⟨y',hy',rfl⟩:=hq
      obtain ⟨i,j,x,c,rfl,k2,k3,k4,k5⟩:=g3 q y' hy'
      obtain ⟨v,hv,hrv⟩:=hrep i x k3
      have:=f3 i v hv j k2
      rw [Nat.zero_add] at this
      rw [Nat.zero_add,this]
      refine RepV.later h hd (stays_alloc h _) (ment_killV [d] y' (by simp)) ?_
      exact ((vcells_sound k4 hrv).2 j y' k5).killed [d]
     ·refine .own d 0 len _ len ti.size len ?_ (by omega) (Nat.le_refl _) (.inr ⟨w.heap.size,0,by simp [setMu],by simp,cs',e,heap_new _ _,?_⟩)
      ·rw [shs_mk]; simp [shp]
      ·rw [hsize]; simp
    ·simp at hs
   ·simp at hs
  ·simp at hs
 ·simp at hs
def bsX (G:Pg) (σ:St) (d t len:Nat) (ps:List (Nat×V)):Option St:=if G.deep.contains t=true then bsD G σ d t len ps else bsA G σ d t len ps
theorem bsX_sound (hT:TOk G) (h:Sim C σ a w μ Fz Fy) {d t len:Nat} (hd:d < C.N) {ps:List (Nat×V)} {σ':St} (hs:bsX G σ d t len ps=some σ') (vs:Array (Nat×Value)) (hl:vs.size=ps.length)
  (hr:∀ (j:Nat) (x:Nat×V),ps[j]? = some x->∃ v,vs[j]? = some (x.1,v)/\RepV μ (shs σ) Fz Fy w x.2 v) :
  ∃ u w' μ' Fz' Fy',(Instr.buildSlice t len vs).run G.P w = .ok u w'/\Sim C σ' (a.put (some d) u) w' μ' Fz' Fy':=by
 unfold bsX at hs
 split at hs
 ·exact bsD_sound hT h hd hs vs hl hr
 ·exact bsA_sound hT h hd hs vs hl hr
def bs0A (G:Pg) (σ:St) (d t len:Nat):Option St :=
 match lk t G.tbl with
 | some ⟨_,_,_,.slice e⟩=>match lk e G.tbl with
  | some ti=>if len=0 then some { σ with env:=put d (.fv false (.sl true ti.size [])) σ.env } else none
  | none=>none
 | _=>none
theorem bs0A_sound (hT:TOk G) (h:Sim C σ a w μ Fz Fy) {d t len:Nat} (hd:d < C.N) {σ':St} (hs:bs0A G σ d t len=some σ'):∃ u w',(Instr.buildSlice t len #[]).run G.P w = .ok u w'/\Sim C σ' (a.put (some d) u) w' μ Fz Fy:=by
 unfold bs0A at hs
 split at hs
 ·rename_i sz bt zr e hti
  split at hs
  ·rename_i ti he
   split at hs
   ·rename_i hl
    subst hl
    simp only [Option.some.injEq] at hs; subst hs
    obtain ⟨dd,hdd,hk⟩:=(hT t _ hti).under
    have hk':dd = .slice e:=hk
    subst hk'
    have hrun:(Instr.buildSlice t 0 #[]).run G.P w = .ok (.slice (some ⟨w.heap.size,0,none⟩) 0 0) (w.alloc (.cells #[] e)):=by
     simp [Instr.buildSlice,underlying,hdd,run_sizeOf' hT he,Instr.fill,newRow,show (Array.range 0)=#[] from rfl]
    exact ⟨_,_,hrun,(h.stays (stays_alloc h _)).set d hd _ _ (.fv _ _ _ (.sl0 _ _ _ _ (fun _=>rfl)))⟩
   ·cases hs
  ·cases hs
 ·cases hs
def elemOf (zs:List FV):FV:=match zs with
 | [x]=>x
 | zs=>.agg zs
def mkA (G:Pg) (σ:St) (d t:Nat) (l c:Int):Option St :=
 match lk t G.tbl with
 | some ⟨_,_,_,.slice e⟩=>match lk e G.tbl with
  | some ti=>if 0<=l/\l<=c/\ti.bytes*c<=281474976710656/\c<=9223372036854775807/\ti.size≠0 then some (σ.mk' d (.arr ti.size (List.replicate l.toNat (elemOf ti.zero))) (.own d 0 l.toNat)) else none
  | none=>none
 | _=>none
theorem zgood_nagg {x:FV} (h:zgood x=true):nagg x=true:=by cases x<;>simp_all [zgood,nagg]
theorem cells_elemOf {zs:List FV} (h:zs.all zgood=true) (h0:zs.length≠0):cellsOf (elemOf zs)=zs:=by
 unfold elemOf
 split
 ·rename_i x
  simp only [List.all_cons,List.all_nil,Bool.and_true] at h
  have:=zgood_nagg h
  cases x<;>simp_all [cellsOf,nagg]
 ·rfl
theorem mkA_sound (hT:TOk G) (h:Sim C σ a w μ Fz Fy) {d t:Nat} (hd:d < C.N) {l c:Int} {σ':St} (hs:mkA G σ d t l c=some σ') (k1 k2:IntKind) :
  ∃ u w' μ',(Instr.makeSlice t (.int k1 l) (.int k2 c)).run G.P w = .ok u w'/\Sim C σ' (a.put (some d) u) w' μ' Fz Fy:=by
 unfold mkA at hs
 split at hs
 ·rename_i s1 s2 s3 e heq
  obtain ⟨dd,hd',hk⟩:=(hT t _ heq).under
  simp only [KindIs] at hk; subst hk
  split at hs
  ·rename_i ti hti
   split at hs
   ·rename_i hcond
    obtain ⟨h0,hlc,hby,hmx,hsz0⟩:=hcond
    simp only [Option.some.injEq] at hs; subst hs
    obtain ⟨z,hz,_,hzs,hzl⟩:=zero_cells (μ:=μ) (sh:=shs σ) (Fz:=Fz) (Fy:=Fy) (w:=w) hT hti
    obtain ⟨i,hi,his,hib,_⟩:=(hT e ti hti).info
    have hg:=(hT e ti hti).good
    have hzl':=(hT e ti hti).zsize
    have wl:IntKind.i64.wrap l=l:=IntWalk.i64_in _ (by omega)
    have wc:IntKind.i64.wrap c=c:=IntWalk.i64_in _ (by omega)
    have e1:¬ ((decide (c < 0)||decide ((i.bytes:Int)*c > 2 ^ 48)||decide (l < 0)||decide (l > c))=true):=by
     rw [hib]
     simp only [Bool.or_eq_true,decide_eq_true_eq,not_or,show (2:Int) ^ 48=281474976710656 from by decide]
     omega
    have hzr:z.cells.size≠0:=by rw [hzs]; exact hsz0
    have hrun:∃ cs:Array Value,(Instr.makeSlice t (.int k1 l) (.int k2 c)).run G.P w = .ok (.slice (some ⟨w.heap.size,0,none⟩) l.toNat c.toNat) (w.alloc (.cells cs e))/\cs.size=c.toNat*ti.size/\∀ k,k < c.toNat*ti.size->cs.getD k undef=z.cells.getD (k % ti.size) undef:=by
     by_cases hn:c.toNat*ti.size=0
     ·refine ⟨#[],?_,by simp [hn],fun k hk=>by omega⟩
      simp only [Instr.makeSlice,underlying,Sem.run_bind,run_program,Result.andThen_ok,hd',Sem.run_pure,asInt,asIntOf,typeInfo,hi,wl,wc,Sem.run_ite]
      rw [if_neg e1]
      simp only [run_askRoom,Result.andThen_ok,run_sizeOf' hT hti,hn,if_true,newRow,Sem.run_bind,Sem.run_pure]
      have er:∀ f:Nat->Value,Array.map f (Array.range 0)=#[]:=fun f=>by apply Array.eq_empty_of_size_eq_zero; simp
      simp [er]
     ·refine ⟨(Array.range (c.toNat*ti.size)).map (z.cells[· % z.cells.size]!),?_,by simp,fun k hk=>?_⟩
      ·simp only [Instr.makeSlice,underlying,Sem.run_bind,run_program,Result.andThen_ok,hd',Sem.run_pure,asInt,asIntOf,typeInfo,hi,wl,wc,Sem.run_ite]
       rw [if_neg e1]
       simp only [run_askRoom,Result.andThen_ok,run_sizeOf' hT hti,hn,if_false,hz,newRow,Sem.run_bind,Sem.run_pure]
       simp
      ·rw [Array.getD_eq_getD_getElem?,Array.getElem?_map,Array.getElem?_range,if_pos hk]
       have hlt:k % z.cells.size < z.cells.size:=Nat.mod_lt _ (by omega)
       simp only [Option.map_some,Option.getD_some,<-hzs]
       simp [hlt]
    obtain ⟨cs,hrun,hcs,hcz⟩:=hrun
    have hce:=cells_elemOf hg (by rw [hzl']; exact hsz0)
    refine ⟨_,_,_,hrun,h.made hd (stays_alloc h _) (some (w.heap.size,0)) _ _ _ (new_free h _) ?_ ?_⟩
    ·refine .arr _ _ w.heap.size 0 cs e (by simp [setMu]) (heap_new _ _) ?_ (fun i x hi=>?_) fun i x j y hi hj=>?_
     ·rw [hcs,List.length_replicate,Nat.zero_add]; exact Nat.mul_le_mul_right _ (by omega)
     ·rw [List.getElem?_replicate] at hi
      split at hi
      ·simp only [Option.some.injEq] at hi; subst hi
       simp only [cellsOK,hce,hzl',beq_self_eq_true,Bool.true_and,List.all_eq_true]
       rw [List.all_eq_true] at hg
       exact fun y hy=>zgood_nagg (hg y hy)
      ·simp at hi
     ·rw [List.getElem?_replicate] at hi
      split at hi
      ·rename_i hil
       simp only [Option.some.injEq] at hi; subst hi
       rw [hce] at hj
       have hjl:j < ti.size:=by rw [<-hzl']; exact (List.getElem?_eq_some_iff.1 hj).1
       have hk:i*ti.size+j < c.toNat*ti.size:=by
        have:(i+1)*ti.size<=c.toNat*ti.size:=Nat.mul_le_mul_right _ (by omega)
        rw [Nat.add_mul] at this; omega
       rw [Nat.zero_add,hcz _ hk]
       have e2:(i*ti.size+j) % ti.size=j:=by rw [Nat.mul_comm,Nat.mul_add_mod,Nat.mod_eq_of_lt hjl]
       rw [e2]
       have e3:z.cells.getD j undef=cval y:=by
        have:z.cells.toList[j]? = some (cval y):=by rw [hzl]; simp [hj]
        rw [Array.getElem?_toList] at this
        simp [Array.getD_eq_getD_getElem?,this]
       rw [e3]
       rw [List.all_eq_true] at hg
       exact rep_cval (hg y (List.mem_of_getElem? hj))
      ·simp at hi
    ·refine .own d 0 _ _ c.toNat ti.size l.toNat ?_ (by omega) (by omega) (.inr ⟨w.heap.size,0,by simp [setMu],by simp,cs,e,heap_new _ _,?_⟩)
     ·rw [shs_mk]; simp [shp]
     ·rw [hcs]; simp
   ·simp at hs
  ·simp at hs
 ·simp at hs
end
section
variable {C:Base} {σ:St} {a:Act} {w w':World} {μ:Mu} {Fz Fy:Nat->Prop} {G:Pg}
theorem shs_put {s:Nat} {B0 B1:Blk} (hb:lk s σ.blk=some B0) (hsh:shp B1=shp B0):shs { σ with blk:=put s B1 σ.blk }=shs σ:=by
 funext t
 simp only [shs,lk_put]
 split
 ·rename_i e; subst e; simp [hb,hsh]
 ·rfl
theorem setRow_stays (h:Sim C σ a w μ Fz Fy) {s b base:Nat} (hs:lk s σ.blk≠none) (hm:μ s=some (b,base)) {c c':Array Value} {e:TypeId} (hh:w.heap[b]? = some (.cells c e (0,0))) (hcs:c'.size=c.size) :
  Stays C (σ.drop s) w (w.setRow b c') μ Fy:=by
 have hlive:=h.live s hs b base hm
 have hheap:(w.setRow b c').heap[b]? = some (.cells c' e (0,0)):=setRow_heap w b c c' e (0,0) hh
 have hother:∀ r,r≠b->(w.setRow b c').heap[r]? = w.heap[r]?:=fun r hr=>setRow_other w b r c' hr
 refine { keeps:=fun r x e' fr hx=>?_,fixed:=fun r hr=>hother r (fun e=>hlive.2.2 (e▸hr)),own:=fun t ht r base' hr=>hother r (fun e=>?_),below:=BelowX.setRow h.below hlive.1 hh c' hcs,size:=by simp,rest:=fun r hr=>hother r (fun e=>(h.fm r hr).2.2 s hs base (e▸hm)),drawn:=Nat.le_refl _ }
 ·by_cases er:r=b
  ·subst er
   rw [hh] at hx
   simp only [Option.some.injEq,Obj.cells.injEq] at hx
   obtain ⟨rfl,rfl,rfl⟩:=hx
   exact ⟨c',hheap,hcs⟩
  ·exact ⟨x,(hother r er).trans hx,rfl⟩
 ·simp only [St.drop,lk_rm] at ht
  by_cases et:t=s
  ·simp [et] at ht
  ·simp only [et,if_false] at ht
   exact h.inj t s ht hs et r base' b base hr hm e
theorem Sim.upd (h:Sim C σ a w μ Fz Fy) {s:Nat} {B0 B1:Blk} (hb:lk s σ.blk=some B0) (hsh:shp B1=shp B0) {b base:Nat} (hm:μ s=some (b,base)) {c c':Array Value} {e:TypeId}
  (hh:w.heap[b]? = some (.cells c e (0,0))) (hcs:c'.size=c.size) (hnew:RepB μ (shs σ) Fz Fy (w.setRow b c') s B1):Sim C { σ with blk:=put s B1 σ.blk } a (w.setRow b c') μ Fz Fy:=by
 have hst:=setRow_stays h (by simp [hb]) hm hh hcs
 have hp:∀ t,lk t (put s B1 σ.blk)≠none->lk t σ.blk≠none:=fun t ht=>by
  by_cases e:t=s
  ·subst e; simp [hb]
  ·simpa [lk_put,e] using ht
 refine { defers:=fun d hd=>let ⟨D,e1,e2,e3,e4⟩:=h.defers d hd; ⟨D,e1,e2,e3,(hst.fixed D e2).trans e4⟩,dist:=h.dist,small:=h.small,y0:=h.y0,lp:=h.lp,mm:=h.mm,yd:=h.yd_stays hst.keeps hst.below hst.size hst.rest hst.drawn,fm:=fun r hr=>⟨Nat.lt_of_lt_of_le (h.fm r hr).1 hst.size,(h.fm r hr).2.1,fun t ht=>(h.fm r hr).2.2 t (hp t ht)⟩,size:=h.size,env:=fun k v hk=>⟨(h.env k v hk).1,?_⟩,blk:=fun t x hx=>?_,live:=fun t ht r base' hr=>?_,inj:=fun t u ht hu=>h.inj t u (hp t ht) (hp u hu),zy:=h.zy,yl:=fun r hr=>Nat.lt_of_lt_of_le (h.yl r hr) hst.size,z0:=h.z0,below:=hst.below,big:=Nat.le_trans h.big hst.size,gl:=h.gl.mono (fun _ x=>x) (fun b x=>hst.fixed b (h.zy b x)) }
 ·rw [shs_put hb hsh]
  exact (h.env k v hk).2.mono (fun _ x=>x) (fun _ x=>x) (fun b x=>hst.fixed b (h.zy b x)) hst.fixed hst.keeps (fun _=>False) (fun _ _=>.inr ⟨rfl,rfl⟩) (fun _ x=>x) (fun _ x=>x.elim)
 ·rw [shs_put hb hsh]
  by_cases et:t=s
  ·subst et
   simp only [lk_put_same,Option.some.injEq] at hx
   subst hx; exact hnew
  ·simp only [lk_put,et,if_false] at hx
   exact (h.blk t x hx).mono (fun _ x=>x) (fun _ x=>x) (fun b x=>hst.fixed b (h.zy b x)) hst.fixed hst.keeps (fun _=>False) (fun _ _=>.inr ⟨rfl,rfl⟩) (fun _ x=>x) rfl
    (hst.own t (by simp [St.drop,lk_rm,et,hx])) (fun _ x=>x.elim)
 ·obtain ⟨k1,k2,k3⟩:=h.live t (hp t ht) r base' hr
  exact ⟨k1,Nat.lt_of_lt_of_le k2 hst.size,k3⟩
def vone (σ:St):V->Bool
 | .fv _ x=>nagg x
 | .own s _ _=>pres σ s
 | .ptr s _=>pres σ s
 | .pel s _ _=>pres σ s
 | .map s=>pres σ s
 | .fn _ _ _=>true
 | _=>false
theorem vone_sound {x:V} (hx:vone σ x=true) {v:Value} (hv:RepV μ (shs σ) Fz Fy w x v):v.oneCell'=true:=by
 cases hv with
 | top=>simp [vone] at hx
 | fv _ _ _ h=>exact h.one hx
 | ownx _ _ _ _ h=>exact (pres_sh hx h).elim
 | ptrx _ _ _ h=>exact (pres_sh hx h).elim
 | pelx _ _ _ _ h=>exact (pres_sh hx h).elim
 | mapx _ _ h=>exact (pres_sh hx h).elim
 | agg=>simp [vone] at hx
 | tup=>simp [vone] at hx
 | _=>rfl
def setEl (x:FV) (j:Nat) (ys:List FV):Option FV :=
 match x with
 | .agg cs=>if j+ys.length<=cs.length then some (.agg (cs.take j++ys++cs.drop (j+ys.length))) else none
 | _=>match j,ys with
  | 0,[y]=>if nagg y=true then some y else none
  | _,_=>none
def stoA (G:Pg) (σ:St) (t:Nat) (p x:V):Option St :=
 match lk t G.tbl,vcells σ x with
 | some ti,some vc =>
  if vc.length=ti.size/\vc.all (vone σ)=true then
   match p with
   | .ptr s off=>match lk s σ.blk with
    | some (.box cells)=>if off+vc.length<=cells.length then some { σ with blk:=put s (.box (splice cells off vc)) σ.blk } else none
    | _=>none
   | .pel s i j=>match lk s σ.blk,elemsA σ vc with
    | some (.lst sz m cells),_=>if i < m/\j+vc.length<=sz then some { σ with blk:=put s (.lst sz m (splice cells (i*sz+j) vc)) σ.blk } else none
    | some (.arr sz xs),some (ns,ys)=>match xs[i]? with
     | some x=>match setEl x j ys with
      | some y=>if ns.contains s=false/\cellsOK sz y=true then some { frees σ ns with blk:=put s (.arr sz (xs.set i y)) (frees σ ns).blk } else none
      | none=>none
     | none=>none
    | _,_=>none
   | _=>none
  else none
 | _,_=>none
theorem cells_put (c:Array Value) (o:Nat) (vs:List Value) (hl:o+vs.length<=c.size) :
  let c':=(c.toList.take o++vs++c.toList.drop (o+vs.length)).toArray
  c'.size=c.size/\∀ k,c'.getD k undef=if o<=k/\k < o+vs.length then vs.getD (k-o) undef else c.getD k undef:=by
 simp only
 refine ⟨by simp; omega,fun k=>?_⟩
 simp only [Array.getD_eq_getD_getElem?,List.getElem?_toArray,List.append_assoc,List.getD_eq_getElem?_getD]
 by_cases h1:k < o
 ·rw [if_neg (by omega),List.getElem?_append_left (by simp; omega),List.getElem?_take_of_lt h1]
  simp
 ·by_cases h2:k < o+vs.length
  ·rw [if_pos (by omega),List.getElem?_append_right (by simp; omega),List.getElem?_append_left (by simp; omega)]
   have:k-(c.toList.take o).length=k-o:=by simp; omega
   rw [this]
  ·rw [if_neg (by omega),List.getElem?_append_right (by simp; omega),List.getElem?_append_right (by simp; omega)]
   have:(c.toList.take o).length=o:=by simp; omega
   rw [this,List.getElem?_drop,show o+vs.length+(k-o-vs.length)=k from by omega]
   simp
theorem run_store_at {P:Program} {b o:Nat} {c:Array Value} {e:TypeId} (hh:w.heap[b]? = some (.cells c e (0,0))) (vs:List Value) (hl:o+vs.length<=c.size) (h1:∀ v∈vs,v.oneCell'=true) :
  (storeCells ⟨b,o,none⟩ vs).run P w = .ok () (w.setRow b (c.toList.take o++vs++c.toList.drop (o+vs.length)).toArray):=by
 have:=run_storeCells_at P b o e vs 0 c w hh (by simpa using hl) h1
 simpa using this
theorem blk_frees:∀ {ns:List Nat} {σ:St} {s:Nat},lk s (frees σ ns).blk=if s∈ns then none else lk s σ.blk
 | [],σ,s=>by simp [frees]
 | n :: ns,σ,s=>by
  rw [frees,blk_frees]
  by_cases h:s=n
  ·subst h; simp [St.drop,lk_rm]
  ·simp [St.drop,lk_rm,h]
theorem stoA_sound (hT:TOk G) (h:Sim C σ a w μ Fz Fy) {t:Nat} {p x:V} {σ':St} (hs:stoA G σ t p x=some σ') {v u:Value} (hv:RepV μ (shs σ) Fz Fy w p v) (hu:RepV μ (shs σ) Fz Fy w x u) :
  ∃ w' Fz' Fy',(Instr.storeAt t v u).run G.P w = .ok () w'/\Sim C σ' a w' μ Fz' Fy':=by
 unfold stoA at hs
 split at hs
 ·rename_i ti vc hti hvc
  obtain ⟨hc1,hc2⟩:=vcells_sound hvc hu
  split at hs
  ·rename_i hcond
   obtain ⟨hlen,hone⟩:=hcond
   have hlen0:=hlen
   rw [List.all_eq_true] at hone
   have hones:∀ z∈u.cells.toList,z.oneCell'=true:=by
    intro z hz
    obtain ⟨j,hj,hjz⟩:=List.getElem_of_mem hz
    have hjl:j < vc.length:=by rw [<-hc1]; simpa using hj
    have:=hc2 j _ (List.getElem?_eq_getElem hjl)
    have e:u.cells.getD j undef=z:=by
     have hj':j < u.cells.size:=by simpa using hj
     simp only [Array.getD_eq_getD_getElem?,Array.getElem?_eq_getElem hj',Option.getD_some]
     simpa using hjz
    rw [e] at this
    exact vone_sound (hone _ (List.getElem_mem hjl)) this
   have hul:u.cells.toList.length=vc.length:=by simp [hc1]
   split at hs
   ·rename_i s off
    split at hs
    ·rename_i cells hb
     split at hs
     ·rename_i hfit
      simp only [Option.some.injEq] at hs; subst hs
      have hB:=h.blk s _ hb
      cases hB with
      | box _ b c e hm hh hc hr =>
      cases hv with
      | ptrx _ _ _ hx=>simp [shs,hb] at hx
      | ptr _ _ b' base hm' =>
      rw [hm] at hm'
      simp only [Option.some.injEq,Prod.mk.injEq] at hm'
      obtain ⟨rfl,rfl⟩:=hm'
      have hl:off+u.cells.toList.length<=c.size:=by rw [hul,hc]; exact hfit
      have hrun:=run_store_at (P:=G.P) hh u.cells.toList hl hones
      obtain ⟨p1,p2⟩:=cells_put c off u.cells.toList hl
      generalize hc':(c.toList.take off++u.cells.toList++c.toList.drop (off+u.cells.toList.length)).toArray=c' at hrun p1 p2
      have hst:=setRow_stays h (by simp [hb]) hm hh p1
      refine ⟨_,Fz,Fy,?_,h.upd hb ?_ hm hh p1 ?_⟩
      ·have e1:u.cells.size=ti.size:=by rw [hc1,hlen]
       simp only [Instr.storeAt,Instr.sureAddr,storeVar,Sem.run_bind,Sem.run_pure,Result.andThen_ok,run_sizeOf' hT hti,Sem.run_ite,e1]
       simp [hrun]
      ·simp [shp,splice]; omega
      ·have hkeep:∀ (y:V) (z:Value),RepV μ (shs σ) Fz Fy w y z->RepV μ (shs σ) Fz Fy (w.setRow b c') y z:=fun y z hy =>
        hy.mono (fun _ x=>x) (fun _ x=>x) (fun b x=>hst.fixed b (h.zy b x)) hst.fixed hst.keeps (fun _=>False) (fun _ _=>.inr ⟨rfl,rfl⟩) (fun _ x=>x) (fun _ x=>x.elim)
       refine .box _ b c' e hm (setRow_heap w b c c' e (0,0) hh) (by rw [p1,hc]; simp [splice]; omega) fun j y hj=>?_
       rw [p2 j]
       simp only [splice,List.append_assoc] at hj
       by_cases k1:j < off
       ·rw [if_neg (by omega)]
        rw [List.getElem?_append_left (by simp; omega),List.getElem?_take_of_lt k1] at hj
        exact hkeep _ _ (hr j y hj)
       ·rw [List.getElem?_append_right (by simp; omega)] at hj
        have e4:(cells.take off).length=off:=by simp; omega
        rw [e4] at hj
        by_cases k2:j < off+vc.length
        ·rw [if_pos (by omega)]
         rw [List.getElem?_append_left (by omega)] at hj
         have:=hkeep _ _ (hc2 (j-off) y hj)
         simpa [Array.getD_eq_getD_getElem?,List.getD_eq_getElem?_getD] using this
        ·rw [if_neg (by omega)]
         rw [List.getElem?_append_right (by omega),List.getElem?_drop,show off+vc.length+(j-off-vc.length)=j from by omega] at hj
         exact hkeep _ _ (hr j y hj)
     ·simp at hs
    ·simp at hs
   ·rename_i s i j
    split at hs
    ·rename_i sz m cells hb
     split at hs
     ·rename_i hfit
      simp only [Option.some.injEq] at hs; subst hs
      have hB:=h.blk s _ hb
      cases hB with
      | lst _ _ _ b base c e hm hh hlen hc hr =>
      cases hv with
      | pelx _ _ _ _ hx=>simp [shs,hb] at hx
      | pel _ _ _ sz' n' b' base' hs' hi hm' =>
      rw [hm] at hm'
      simp only [Option.some.injEq,Prod.mk.injEq] at hm'
      obtain ⟨rfl,rfl⟩:=hm'
      simp only [shs,hb,Option.map_some,shp,Option.some.injEq,Prod.mk.injEq] at hs'
      obtain ⟨rfl,rfl⟩:=hs'
      have hlt:(i+1)*sz<=m*sz:=Nat.mul_le_mul_right _ hfit.1
      rw [Nat.add_mul] at hlt
      have hl:base+(i*sz+j)+u.cells.toList.length<=c.size:=by rw [hul]; omega
      have hrun:=run_store_at (P:=G.P) hh u.cells.toList hl hones
      obtain ⟨p1,p2⟩:=cells_put c (base+(i*sz+j)) u.cells.toList hl
      generalize hc':(c.toList.take (base+(i*sz+j))++u.cells.toList++c.toList.drop (base+(i*sz+j)+u.cells.toList.length)).toArray=c' at hrun p1 p2
      have hst:=setRow_stays h (by simp [hb]) hm hh p1
      refine ⟨_,Fz,Fy,?_,h.upd hb ?_ hm hh p1 ?_⟩
      ·have e1:u.cells.size=ti.size:=by rw [hc1,hlen0]
       simp only [Instr.storeAt,Instr.sureAddr,storeVar,Sem.run_bind,Sem.run_pure,Result.andThen_ok,run_sizeOf' hT hti,Sem.run_ite,e1]
       simp [hrun]
      ·simp [shp]
      ·have hkeep:∀ (y:V) (z:Value),RepV μ (shs σ) Fz Fy w y z->RepV μ (shs σ) Fz Fy (w.setRow b c') y z:=fun y z hy =>
        hy.mono (fun _ x=>x) (fun _ x=>x) (fun b x=>hst.fixed b (h.zy b x)) hst.fixed hst.keeps (fun _=>False) (fun _ _=>.inr ⟨rfl,rfl⟩) (fun _ x=>x) (fun _ x=>x.elim)
       generalize hoff:i*sz+j=off at *
       refine .lst _ _ _ b base c' e hm (setRow_heap w b c c' e (0,0) hh) (by simp [splice]; omega) (by rw [p1]; exact hc) fun q y hq=>?_
       rw [p2 (base+q)]
       simp only [splice,List.append_assoc] at hq
       by_cases k1:q < off
       ·rw [if_neg (by omega)]
        rw [List.getElem?_append_left (by simp; omega),List.getElem?_take_of_lt k1] at hq
        exact hkeep _ _ (hr q y hq)
       ·rw [List.getElem?_append_right (by simp; omega)] at hq
        have e4:(cells.take off).length=off:=by simp; omega
        rw [e4] at hq
        by_cases k2:q < off+vc.length
        ·rw [if_pos (by omega)]
         rw [List.getElem?_append_left (by omega)] at hq
         have:=hkeep _ _ (hc2 (q-off) y hq)
         rw [show base+q-(base+off)=q-off from by omega]
         simpa [Array.getD_eq_getD_getElem?,List.getD_eq_getElem?_getD] using this
        ·rw [if_neg (by omega)]
         rw [List.getElem?_append_right (by omega),List.getElem?_drop,show off+vc.length+(q-off-vc.length)=q from by omega] at hq
         exact hkeep _ _ (hr q y hq)
     ·simp at hs
    ·rename_i sz xs ns ys hb hys
     split at hs
     ·rename_i x hx
      split at hs
      ·rename_i y hy
       split at hs
       ·rename_i hcond2
        obtain ⟨hns,hok⟩:=hcond2
        simp only [Option.some.injEq] at hs; subst hs
        have hns':s∉ns:=by
         intro hmem
         have:ns.contains s=true:=by simpa using hmem
         rw [hns] at this; simp at this
        obtain ⟨e1,e2,e3⟩:=elemsA_sound h (vs:=u.cells.toList) hys hul (fun k z hk=>by
         have hkl:=(List.getElem?_eq_some_iff.1 hk).1
         have hk':k < u.cells.size:=by rw [hc1]; exact hkl
         refine ⟨u.cells[k],by simp [hk'],?_⟩
         have:=hc2 k z hk
         simpa [Array.getD_eq_getD_getElem?,hk'] using this)
        have hfz:=h.freezes (ns:=ns) e1
        have hb':lk s (frees σ ns).blk=some (.arr sz xs):=by rw [blk_frees,if_neg hns',hb]
        have hB:=hfz.blk s _ hb'
        cases hB with
        | nil=>simp at hx
        | arr _ _ b base c e hm hh hc hsz hr =>
        cases hv with
        | pelx _ _ _ _ hx=>simp [shs,hb] at hx
        | pel _ _ _ sz' n' b' base' hs' hi hm' =>
        rw [hm] at hm'
        simp only [Option.some.injEq,Prod.mk.injEq] at hm'
        obtain ⟨rfl,rfl⟩:=hm'
        simp only [shs,hb,Option.map_some,shp,Option.some.injEq,Prod.mk.injEq] at hs'
        obtain ⟨rfl,rfl⟩:=hs'
        have hxl:=ok_len (hsz i x hx)
        have hcel:(cellsOf y).length=sz/\j+ys.length<=sz/\∀ k z,(cellsOf y)[k]? = some z->(j<=k/\k < j+ys.length/\ys[k-j]? = some z)\/((k < j\/j+ys.length<=k)/\(cellsOf x)[k]? = some z):=by
         refine ⟨ok_len hok,?_⟩
         unfold setEl at hy
         split at hy
         ·rename_i cs
          split at hy
          ·rename_i hle
           simp only [Option.some.injEq] at hy; subst hy
           simp only [cellsOf] at hxl ⊢
           refine ⟨by omega,fun k z hk=>?_⟩
           rw [List.append_assoc] at hk
           by_cases k1:k < j
           ·rw [List.getElem?_append_left (by simp; omega),List.getElem?_take_of_lt k1] at hk
            exact .inr ⟨.inl k1,hk⟩
           ·rw [List.getElem?_append_right (by simp; omega)] at hk
            have e4:(cs.take j).length=j:=by simp; omega
            rw [e4] at hk
            by_cases k2:k < j+ys.length
            ·rw [List.getElem?_append_left (by omega)] at hk
             exact .inl ⟨by omega,k2,hk⟩
            ·rw [List.getElem?_append_right (by omega),List.getElem?_drop,show j+ys.length+(k-j-ys.length)=k from by omega] at hk
             exact .inr ⟨.inr (by omega),hk⟩
          ·simp at hy
         ·rename_i hne
          split at hy
          ·rename_i y'
           split at hy
           ·rename_i hna
            simp only [Option.some.injEq] at hy; subst hy
            have hcx:cellsOf x=[x]:=by
             cases x<;>first | rfl | exact absurd rfl (hne _)
            have hcy:cellsOf y'=[y']:=by
             cases y'<;>first | rfl | simp [nagg] at hna
            rw [hcx] at hxl
            simp only [List.length_cons,List.length_nil] at hxl
            refine ⟨by simp; omega,fun k z hk=>.inl ?_⟩
            rw [hcy] at hk
            have hk0:k=0:=by have:=(List.getElem?_eq_some_iff.1 hk).1; simp at this; exact this
            subst hk0
            exact ⟨by omega,by simp,by simpa using hk⟩
           ·simp at hy
          ·simp at hy
        have hl:base+(i*sz+j)+u.cells.toList.length<=c.size:=by
         rw [hul,<-e2]
         have hil:=(List.getElem?_eq_some_iff.1 hx).1
         have:(i+1)*sz<=xs.length*sz:=Nat.mul_le_mul_right _ hil
         rw [Nat.add_mul] at this
         omega
        have hrun:=run_store_at (P:=G.P) hh u.cells.toList hl hones
        obtain ⟨p1,p2⟩:=cells_put c (base+(i*sz+j)) u.cells.toList hl
        generalize hc':(c.toList.take (base+(i*sz+j))++u.cells.toList++c.toList.drop (base+(i*sz+j)+u.cells.toList.length)).toArray=c' at hrun p1 p2
        have hst:=setRow_stays hfz (by simp [hb']) hm hh p1
        refine ⟨_,_,_,?_,hfz.upd hb' ?_ hm hh p1 ?_⟩
        ·have e1:u.cells.size=ti.size:=by rw [hc1,hlen]
         simp only [Instr.storeAt,Instr.sureAddr,storeVar,Sem.run_bind,Sem.run_pure,Result.andThen_ok,run_sizeOf' hT hti,Sem.run_ite,e1]
         simp [hrun]
        ·simp [shp]
        ·have hkeep:∀ (y:FV) (z:Value),RepF (Of μ Fz ns) w y z->RepF (Of μ Fz ns) (w.setRow b c') y z:=fun y z hy=>hy.mono (fun _ x=>x) (fun b x=>hst.fixed b (hfz.zy b x))
         refine .arr _ _ b base c' e hm (setRow_heap w b c c' e (0,0) hh) (by rw [p1]; simpa using hc) (fun i' x' hi'=>?_) fun i' x' k z hi' hk=>?_
         ·by_cases hii:i=i'
          ·subst hii
           rw [List.getElem?_set_self hi] at hi'
           simp only [Option.some.injEq] at hi'; subst hi'; exact hok
          ·rw [List.getElem?_set_ne hii] at hi'
           exact hsz i' x' hi'
         ·rw [p2]
          by_cases hii:i=i'
          ·subst hii
           rw [List.getElem?_set_self hi] at hi'
           simp only [Option.some.injEq] at hi'; subst hi'
           rcases hcel.2.2 k z hk with ⟨a1,a2,a3⟩ | ⟨a1,a2⟩
           ·rw [if_pos (by rw [hul,<-e2]; omega)]
            obtain ⟨v',hv',hrep⟩:=e3 (k-j) z a3
            have:base+(i*sz+k)-(base+(i*sz+j))=k-j:=by omega
            rw [this,List.getD_eq_getElem?_getD,hv']
            exact hkeep _ _ hrep
           ·rw [if_neg (by rw [hul,<-e2]; omega)]
            exact hkeep _ _ (hr i x k z hx a2)
          ·rw [List.getElem?_set_ne hii] at hi'
           have hkl:k < sz:=by rw [<-ok_len (hsz i' x' hi')]; exact (List.getElem?_eq_some_iff.1 hk).1
           have hjl:j+ys.length<=sz:=hcel.2.1
           rw [if_neg]
           ·exact hkeep _ _ (hr i' x' k z hi' hk)
           ·rw [hul,<-e2]
            rcases Nat.lt_or_gt_of_ne hii with hlt | hgt
            ·have:(i+1)*sz<=i'*sz:=Nat.mul_le_mul_right _ hlt
             rw [Nat.add_mul] at this; omega
            ·have:(i'+1)*sz<=i*sz:=Nat.mul_le_mul_right _ hgt
             rw [Nat.add_mul] at this; omega
       ·simp at hs
      ·simp at hs
     ·simp at hs
    ·simp at hs
   ·simp at hs
  ·simp at hs
 ·simp at hs
end
inductive CompOK (Z:Nat->Prop) (w:World) (m:Option (Nat×Nat)):TV->Value->Prop where
 | fv (x:FV) (v:Value) (h:RepF Z w x v):CompOK Z w m (.fv x) v
 | us (sz:Nat) (xs:List FV) (v:Value) (hv:RepV (fun _=>m) (fun _=>some (sz,xs.length)) Z Z w (.own 0 0 xs.length) v) (hb:RepB (fun _=>m) (fun _=>none) Z Z w 0 (.arr sz xs)):CompOK Z w m (.us sz xs) v
def pack:List Value->Value
 | [v]=>v
 | vs=>.tuple vs.toArray
def newX (X Fz:Nat->Prop) (w w':World) (m:Nat->Option (Nat×Nat)):Nat->Prop:=fun b=>Fz b\/((w.heap.size<=b\/X b)/\b < w'.heap.size/\∀ j base,m j≠some (b,base))
def noX:Nat->Prop:=fun _=>False
structure Res (X Fz:Nat->Prop) (w w':World) (res:List TV) (v:Value) (vs:List Value) (m:Nat->Option (Nat×Nat)):Prop where
 val:v=pack vs
 len:vs.length=res.length
 comp:∀ (j:Nat) (r:TV),res[j]? = some r->∃ u,vs[j]? = some u/\CompOK (newX X Fz w w' m) w' (m j) r u
 new:∀ (j b base:Nat),m j=some (b,base)->(w.heap.size<=b\/X b)/\b < w'.heap.size
 apart:∀ (i j b base b' base':Nat),i≠j->m i=some (b,base)->m j=some (b',base')->b≠b'
def Valid (P:Program) (k:FuncId) (args:List (Bool×FV)) (res:List TV):Prop :=
 ∀ (w:World) (Fz Fy:Nat->Prop) (vs:List Value),(∀ b,Fz b->Fy b)->(∀ b,Fy b->b < w.heap.size)->vs.length=args.length ->
  (∀ (j:Nat) (p:Bool×FV),args[j]? = some p->∃ v,vs[j]? = some v/\RepF (roF Fz Fy p.1) w p.2 v)->GlOk Fz w ->
  Calls P k vs.toArray w fun e w'=>∃ v us m,e = .returned v/\Below w.heap.size w w'/\Res noX Fz w w' res v us m
def nm (d:Nat) (single:Bool) (j:Nat):Nat:=if single then d+100000*j else 1000+16*d+100000*j
theorem nm_inj {d:Nat} {s:Bool} {i j:Nat} (h:nm d s i=nm d s j):i=j:=by
 cases s<;>simp [nm] at h<;>omega
def addRes (d:Nat) (s:Bool):Nat->List TV->St->St×List V
 | _,[],σ=>(σ,[])
 | j,.fv x :: r,σ=>((addRes d s (j+1) r σ).1,.fv false x :: (addRes d s (j+1) r σ).2)
 | j,.us sz xs :: r,σ =>
  ({ ((addRes d s (j+1) r σ).1.drop (nm d s j)).kill [nm d s j] with blk:=put (nm d s j) (.arr sz xs) (((addRes d s (j+1) r σ).1.drop (nm d s j)).kill [nm d s j]).blk },.own (nm d s j) 0 xs.length :: (addRes d s (j+1) r σ).2)
section
variable {C:Base} {σ:St} {a:Act} {w w':World} {μ:Mu} {Fz Fy:Nat->Prop} {G:Pg}
theorem nm_YN {d j:Nat} {s:Bool} (hd:d < 90000):nm d s j≠YN:=by
 unfold nm YN
 cases s<;>simp<;>omega
theorem addRes_sound {Z Y:Nat->Prop} (d:Nat) (s:Bool) (m:Nat->Option (Nat×Nat)) (hm:∀ (i j b base b' base':Nat),i≠j->m i=some (b,base)->m j=some (b',base')->b≠b')
  (hmw:∀ (j b base:Nat),m j=some (b,base)->C.mine b/\b < w.heap.size/\(¬ Y b/\¬ C.M b)) (hd:d < 90000) :
  ∀ (res:List TV) (j:Nat) (vs:List Value),Sim C σ a w μ Z Y->(∀ (k b base:Nat),m k=some (b,base)->∀ t,lk t σ.blk≠none->∀ b' base',μ t=some (b',base')->b'≠b) ->
   (∀ (i:Nat) (r:TV),res[i]? = some r->∃ u,vs[i]? = some u/\CompOK Z w (m (j+i)) r u) ->
   ∃ μ',Sim C (addRes d s j res σ).1 a w μ' Z Y/\(addRes d s j res σ).2.length=res.length ∧
    (∀ (i:Nat) (y:V),(addRes d s j res σ).2[i]? = some y->∃ u,vs[i]? = some u/\RepV μ' (shs (addRes d s j res σ).1) Z Y w y u) ∧
    (∀ t,lk t (addRes d s j res σ).1.blk≠none->(∃ k,j<=k/\t=nm d s k/\μ' t=m k)\/(lk t σ.blk≠none/\μ' t=μ t)) ∧
    (∀ y∈(addRes d s j res σ).2,∀ t,(∀ k,j<=k->t≠nm d s k)->ment 1 t y=false)
 | [],j,vs,h,_,_=>⟨μ,h,rfl,by simp [addRes],fun t ht=>.inr ⟨ht,rfl⟩,by simp [addRes]⟩
 | .fv x :: r,j,vs,h,hf,hc=>by
  obtain ⟨u,hu,hcu⟩:=hc 0 _ rfl
  cases vs with
  | nil=>simp at hu
  | cons v vs =>
  simp only [List.getElem?_cons_zero,Option.some.injEq] at hu; subst hu
  obtain ⟨μ',h1,h2,h3,h4,h5⟩:=addRes_sound d s m hm hmw hd r (j+1) vs h hf (fun i r hi=>by
   obtain ⟨u,hu,hcu⟩:=hc (i+1) r (by simpa using hi)
   exact ⟨u,by simpa using hu,by rwa [show j+1+i=j+(i+1) from by omega]⟩)
  refine ⟨μ',h1,by simp [addRes,h2],fun i y hi=>?_,fun t ht=>?_,fun y hy t ht=>?_⟩
  ·cases i with
   | zero =>
    simp only [addRes,List.getElem?_cons_zero,Option.some.injEq] at hi; subst hi
    cases hcu with
    | fv _ _ hx=>exact ⟨v,rfl,.fv _ _ _ hx⟩
   | succ i =>
    obtain ⟨u,hu,hr⟩:=h3 i y (by simpa [addRes] using hi)
    exact ⟨u,by simpa using hu,hr⟩
  ·rcases h4 t ht with ⟨k,hk,e1,e2⟩ | h'
   ·exact .inl ⟨k,by omega,e1,e2⟩
   ·exact .inr h'
  ·simp only [addRes,List.mem_cons] at hy
   rcases hy with rfl | hy
   ·rfl
   ·exact h5 y hy t fun k hk=>ht k (by omega)
 | .us sz xs :: r,j,vs,h,hf,hc=>by
  obtain ⟨u,hu,hcu⟩:=hc 0 _ rfl
  cases vs with
  | nil=>simp at hu
  | cons v vs =>
  simp only [List.getElem?_cons_zero,Option.some.injEq] at hu; subst hu
  obtain ⟨μ',h1,h2,h3,h4,h5⟩:=addRes_sound d s m hm hmw hd r (j+1) vs h hf (fun i r hi=>by
   obtain ⟨u,hu,hcu⟩:=hc (i+1) r (by simpa using hi)
   exact ⟨u,by simpa using hu,by rwa [show j+1+i=j+(i+1) from by omega]⟩)
  have hfree:=St.free_kill ((addRes d s (j+1) r σ).1.drop (nm d s j)) [nm d s j] (s:=nm d s j) (by simp)
  have hS:=(h1.drop (nm d s j)).kill [nm d s j]
  cases hcu with
  | us _ _ _ hv hb =>
  have hname:=hS.name (nm d s j) (nm_YN hd) hfree (m j) (.arr sz xs) (fun b base hmb=>by
   obtain ⟨k1,k2,k3⟩:=hmw j b base hmb
   refine ⟨k1,k2,k3,fun t ht hp b' base' hm'=>?_⟩
   obtain ⟨_,hp⟩:=pres_dk hp
   rcases h4 t hp with ⟨k,hk,e1,e2⟩ | ⟨hp',e2⟩
   ·rw [e2] at hm'
    exact hm k j b' base' b base (by omega) hm' hmb
   ·rw [e2] at hm'
    exact hf j b base hmb t hp' b' base' hm') (by
   cases hb with
   | nil=>exact .nil _
   | arr _ _ b base c e hmb hh hcs hsz hr=>exact .arr _ _ b base c e (by simpa [setMu] using hmb) hh hcs hsz hr)
  have hsh:∀ t,t≠nm d s j->shs { ((addRes d s (j+1) r σ).1.drop (nm d s j)).kill [nm d s j] with blk:=put (nm d s j) (.arr sz xs) (((addRes d s (j+1) r σ).1.drop (nm d s j)).kill [nm d s j]).blk } t=shs (addRes d s (j+1) r σ).1 t:=fun t ht=>by
   simp only [shs,lk_put,ht,if_false,St.kill,St.drop,lk_map,lk_rm]
   cases lk t (addRes d s (j+1) r σ).1.blk with
   | none=>rfl
   | some x=>simp [shp_killB]
  refine ⟨_,hname,by simp [addRes,h2],fun i y hi=>?_,fun t ht=>?_,fun y hy t ht=>?_⟩
  ·cases i with
   | zero =>
    simp only [addRes,List.getElem?_cons_zero,Option.some.injEq] at hi; subst hi
    refine ⟨v,rfl,?_⟩
    cases hv with
    | ownx _ _ _ _ hx=>simp at hx
    | own _ _ _ ad cap sz' n' hs hn hcap hmm =>
    simp only [Option.some.injEq,Prod.mk.injEq] at hs
    obtain ⟨rfl,rfl⟩:=hs
    refine .own _ _ _ ad cap sz xs.length ?_ hn hcap (hmm.imp id ?_)
    ·simp [shs,addRes,lk_put_same,shp]
    ·rintro ⟨b,base,e1,e2,e3⟩
     exact ⟨b,base,by simpa [setMu] using e1,e2,e3⟩
   | succ i =>
    have hi':(addRes d s (j+1) r σ).2[i]? = some y:=by simpa [addRes] using hi
    obtain ⟨u,hu,hr⟩:=h3 i y hi'
    refine ⟨u,by simpa using hu,?_⟩
    refine hr.mono (fun _ x=>x) (fun _ x=>x) (fun _ _=>rfl) (fun _ _=>rfl) (Keeps.refl w) (fun t=>t=nm d s j) (fun t ht=>.inr ⟨hsh t ht,by simp [setMu,ht]⟩) (fun l hl=>by simp only [setMu,if_neg (Ne.symm (nm_YN hd))]; exact hl) (fun t ht=>⟨1,?_⟩)
    subst ht
    exact h5 y (List.mem_of_getElem? hi') _ fun k hk e=>by have:=nm_inj e; omega
  ·by_cases e:t=nm d s j
   ·exact .inl ⟨j,Nat.le_refl _,e,by simp [setMu,e]⟩
   ·simp only [addRes,lk_put,e,if_false] at ht
    obtain ⟨_,hp⟩:=pres_dk ht
    rcases h4 t hp with ⟨k,hk,e1,e2⟩ | ⟨hp',e2⟩
    ·exact .inl ⟨k,by omega,e1,by simp [setMu,e,e2]⟩
    ·exact .inr ⟨hp',by simp [setMu,e,e2]⟩
  ·simp only [addRes,List.mem_cons] at hy
   rcases hy with rfl | hy
   ·simp only [ment,beq_eq_false_iff_ne,ne_eq]
    exact fun e=>ht j (Nat.le_refl _) e.symm
   ·exact h5 y hy t fun k hk=>ht k (by omega)
def argsA (σ:St):List V->Option (List (Bool×FV))
 | []=>some []
 | v :: r=>match frz σ 6 v,argsA σ r with
  | some (ns,ro,x),some xs=>some ((ro||!ns.isEmpty,x) :: xs)
  | _,_=>none
def AllOf (Fy:Nat->Prop) (σ:St) (μ:Mu):Nat->Prop:=fun b=>Fy b\/∃ s,lk s σ.blk≠none/\∃ base,μ s=some (b,base)
theorem argsA_sound (h:Sim C σ a w μ Fz Fy):∀ {vs:List V} {xs:List (Bool×FV)} {us:List Value},argsA σ vs=some xs->us.length=vs.length ->
  (∀ (j:Nat) (y:V),vs[j]? = some y->∃ u,us[j]? = some u/\RepV μ (shs σ) Fz Fy w y u) ->
  xs.length=vs.length/\∀ (j:Nat) (p:Bool×FV),xs[j]? = some p->∃ u,us[j]? = some u/\RepF (roF Fz (AllOf Fy σ μ) p.1) w p.2 u
 | [],xs,us,hx,_,_=>by simp [argsA] at hx; subst hx; simp
 | v :: vs,xs,us,hx,hl,hr=>by
  simp only [argsA] at hx
  split at hx
  ·rename_i ns ro x xs' h1 h2
   simp only [Option.some.injEq] at hx; subst hx
   cases us with
   | nil=>simp at hl
   | cons u us =>
   obtain ⟨u',hu',hru⟩:=hr 0 v rfl
   simp only [List.getElem?_cons_zero,Option.some.injEq] at hu'; subst hu'
   obtain ⟨a1,a2⟩:=frz_sound h 6 h1 hru
   obtain ⟨b1,b2⟩:=argsA_sound h (us:=us) h2 (by simpa using hl) (fun j y hj=>by simpa using hr (j+1) y (by simpa using hj))
   refine ⟨by simp [b1],fun j p hj=>?_⟩
   cases j with
   | zero =>
    simp only [List.getElem?_cons_zero,Option.some.injEq] at hj; subst hj
    refine ⟨u,rfl,a2.wider fun b hb=>?_⟩
    simp only
    cases hn:ns with
    | nil =>
     subst hn
     rcases hb with hb | ⟨s,hs,_⟩
     ·cases ro with
      | false=>simpa [roF] using hb
      | true=>simp only [roF,if_true] at hb ⊢; exact .inl hb
     ·simp at hs
    | cons n ns' =>
     have hro:(ro||!(n :: ns').isEmpty)=true:=by simp
     simp only [hro,roF,if_true]
     rcases hb with hb | ⟨s,hs,base,hm⟩
     ·cases ro with
      | false=>exact .inl (h.zy _ (by simpa [roF] using hb))
      | true=>exact .inl (by simpa [roF] using hb)
     ·exact .inr ⟨s,a1 s hs,base,hm⟩
   | succ j=>simpa using b2 j p (by simpa using hj)
  ·simp at hx
def fnOf:V->Option (FuncId×List V×List V)
 | .fv ro (.fn (.func k) first captured)=>some (k,first.map (.fv ro),captured.map (.fv ro))
 | .fn (.func k) first captured=>some (k,first,captured)
 | _=>none
def packV:List V->V
 | [v]=>v
 | vs=>.tup vs
def callA (G:Pg) (σ:St) (d:Nat) (f:V) (args:List V):Option St :=
 match fnOf f with
 | some (k,first,captured)=>match argsA σ (first++args++captured) with
  | some xs=>match G.ctx k xs with
   | some res=>some { (addRes d (res.length==1) 0 res σ).1 with env:=put d (packV (addRes d (res.length==1) 0 res σ).2) (addRes d (res.length==1) 0 res σ).1.env }
   | none=>none
  | none=>none
 | none=>none
def ValidB (P:Program) (k:FuncId) (cells args:List (Bool×FV)) (res:List TV):Prop :=
 ∀ (w:World) (Fz Fy:Nat->Prop) (b0:Nat) (c:Array Value) (e:TypeId) (vs:List Value),(∀ b,Fz b->Fy b)->(∀ b,Fy b->b < w.heap.size)->¬ Fy b0->w.heap[b0]? = some (.cells c e (0,0))->c.size=cells.length ->
  (∀ (j:Nat) (p:Bool×FV),cells[j]? = some p->RepF (roF Fz Fy p.1) w p.2 (c.getD j undef))->vs.length=args.length ->
  (∀ (j:Nat) (p:Bool×FV),args[j]? = some p->∃ v,vs[j]? = some v/\RepF (roF Fz Fy p.1) w p.2 v)->GlOk Fz w ->
  Calls P k (Value.pointer (some ⟨b0,0,none⟩) :: vs).toArray w fun e w'=>∃ v us m,e = .returned v/\BelowX { N:=0,B:=w.heap.size,w0:=w,Fz0:=Fz,X:=fun b=>b=b0 } w'/\Res (fun b=>b=b0) Fz w w' res v us m
structure ValidS (P:Program) (k:FuncId) (sz:Nat) (xs ys:List FV):Prop where
 len:ys.length=xs.length
 ok:∀ (i:Nat) (x:FV),ys[i]? = some x->cellsOK sz x=true
 nil:xs=[]->∀ (w:World) (a:Option Addr) (cap:Nat),Calls P k #[.slice a 0 cap] w fun e w'=>e = .returned (.tuple #[])/\Below w.heap.size w w'
 run:xs≠[]->∀ (w:World) (Fz Fy:Nat->Prop) (b0 base:Nat) (c:Array Value) (e:TypeId) (cap:Nat),(∀ b,Fz b->Fy b)->(∀ b,Fy b->b < w.heap.size)->¬ Fy b0->w.heap[b0]? = some (.cells c e (0,0))->xs.length<=cap->base+cap*sz<=c.size ->
  (∀ (i:Nat) (x:FV) (j:Nat) (y:FV),xs[i]? = some x->(cellsOf x)[j]? = some y->RepF Fz w y (c.getD (base+(i*sz+j)) undef)) ->
  Calls P k #[.slice (some ⟨b0,base,none⟩) xs.length cap] w fun ex w'=>ex = .returned (.tuple #[])/\BelowX { N:=0,B:=w.heap.size,w0:=w,Fz0:=Fz,X:=fun b=>b=b0 } w' ∧
   ∃ c':Array Value,w'.heap[b0]? = some (.cells c' e (0,0))/\c'.size=c.size/\∀ (i:Nat) (x:FV) (j:Nat) (y:FV),ys[i]? = some x->(cellsOf x)[j]? = some y->RepF Fz w' y (c'.getD (base+(i*sz+j)) undef)
def Enters (P : Program) (k : FuncId) : Prop := ∃ fn, P.funcs[k]? = some fn ∧ fn.body.isNone = false ∧ (fn.name == "runtime.NumGoroutine") = false
def ans (st:Option Nat) (n:Nat):Bool :=
 match st with
 | some k=>!(k==n)
 | none=>true
def ItOK (P:Program) (k:FuncId) (caps:List (Bool×FV)) (zs:List (List FV)) (st:Option Nat):Prop :=
 ∀ (W:World) (Fz Fy M0:Nat->Prop) (vs:List Value) (y:Yd),(∀ b,Fz b->Fy b)->(∀ b,Fy b->b < W.heap.size)->vs.length=caps.length ->
  (∀ (j:Nat) (p:Bool×FV),caps[j]? = some p->∃ v,vs[j]? = some v/\RepF (roF Fz Fy p.1) W p.2 v)->GlOk Fz W->y.n1=W.heap.size->(∀ b,M0 b->b < W.heap.size/\¬ Fy b)->y.J 0 M0 W ->
  (∀ (n:Nat) (x:List FV) (M:Nat->Prop) (w:World) (us:List Value),y.J n M w->zs[n]? = some x->us.length=x.length->(∀ (j:Nat) (z:FV),x[j]? = some z->∃ u,us[j]? = some u/\RepF (fun _=>False) w z u) ->
   ∃ fn tmps assign body,(Instr.yield y.l us.toArray).run P w = .ok (.round y.l fn tmps assign body) w/\RoundIn Fence.wide 0 P y.l fn tmps assign body w (fun e w'=>e = .returned (.bool (ans st n))/\∃ M',y.J (n+1) M' w'/\Turn M M' w w')) ->
  Calls P k (Value.func (.yield y.l) #[] #[] :: vs).toArray W fun e w'=>(∃ v,e = .returned v)/\∃ M',y.J zs.length M' w'
def ItH (P:Program) (k:FuncId) (bs:List (Nat×Blk)) (caps:List V) (zs:List (List FV)) (st:Option Nat):Prop :=
 ∀ (W:World) (Fz Fy M0:Nat->Prop) (μ:Mu) (vs:List Value) (y:Yd),(∀ b,Fz b->Fy b)->(∀ b,Fy b->b < W.heap.size)->μ YN=some (y.l,0)->lk YN bs=none->vs.length=caps.length ->
  (∀ (j:Nat) (p:V),caps[j]? = some p->∃ v,vs[j]? = some v/\RepV μ (shs ⟨[],bs,[]⟩) Fz Fy W p v)->(∀ s b,lk s bs=some b->RepB μ (shs ⟨[],bs,[]⟩) Fz Fy W s b) ->
  (∀ s,lk s bs≠none->∀ b base,μ s=some (b,base)->y.H b/\b < W.heap.size/\¬ Fy b/\¬ M0 b) ->
  (∀ s t,lk s bs≠none->lk t bs≠none->s≠t->∀ b base b' base',μ s=some (b,base)->μ t=some (b',base')->b≠b') ->
  GlOk Fz W->y.n1=W.heap.size->(∀ b,M0 b->b < W.heap.size/\¬ Fy b)->y.J 0 M0 W ->
  (∀ (n:Nat) (x:List FV) (M:Nat->Prop) (w:World) (us:List Value),y.J n M w->zs[n]? = some x->us.length=x.length->(∀ (j:Nat) (z:FV),x[j]? = some z->∃ u,us[j]? = some u/\RepF (fun _=>False) w z u) ->
   ∃ fn tmps assign body,(Instr.yield y.l us.toArray).run P w = .ok (.round y.l fn tmps assign body) w/\RoundIn Fence.wide 0 P y.l fn tmps assign body w (fun e w'=>e = .returned (.bool (ans st n))/\∃ M',y.J (n+1) M' w'/\Turn M M' w w')) ->
  Calls P k (Value.func (.yield y.l) #[] #[] :: vs).toArray W fun e w'=>(∃ v,e = .returned v)/\∃ M',y.J zs.length M' w'
def InlOK (P:Program) (k:FuncId) (σ:St) (args:List V) (σ':St) (vs:List V):Prop :=
 ∀ (C:Base) (a:Act) (w:World) (μ:Mu) (Fz Fy:Nat->Prop) (us:List Value),Sim C σ a w μ Fz Fy->us.length=args.length->(∀ (j:Nat) (y:V),args[j]? = some y->∃ u,us[j]? = some u/\RepV μ (shs σ) Fz Fy w y u) ->
  Calls P k us.toArray w fun e w'=>∃ rs M' μ' Fz' Fy',e = .returned (pack rs)/\More C M'/\Sim (C.withM M') σ' a w' μ' Fz' Fy'/\rs.length=vs.length/\∀ (j:Nat) (y:V),vs[j]? = some y->∃ u,rs[j]? = some u/\RepV μ' (shs σ') Fz' Fy' w' y u
def InlOK0 (P:Program) (k:FuncId) (σ:St) (args:List V) (σ':St) (vs:List V):Prop :=
 ∀ (C:Base) (a:Act) (w:World) (μ:Mu) (Fz Fy:Nat->Prop) (us:List Value),Sim C σ a w μ Fz Fy->us.length=args.length->(∀ (j:Nat) (y:V),args[j]? = some y->∃ u,us[j]? = some u/\RepV μ (shs σ) Fz Fy w y u) ->
  Calls P k us.toArray w fun e w'=>∃ rs μ' Fz' Fy',e = .returned (pack rs)/\Sim C σ' a w' μ' Fz' Fy'/\rs.length=vs.length/\∀ (j:Nat) (y:V),vs[j]? = some y->∃ u,rs[j]? = some u/\RepV μ' (shs σ') Fz' Fy' w' y u
theorem InlOK0.inl {P:Program} {k:FuncId} {σ:St} {args:List V} {σ':St} {vs:List V} (h:InlOK0 P k σ args σ' vs):InlOK P k σ args σ' vs:=fun C a w μ Fz Fy us h1 h2 h3 =>
 (h C a w μ Fz Fy us h1 h2 h3).mono fun e w' ⟨rs,μ',Fz',Fy',e1,e2,e3,e4⟩=>⟨rs,C.M,μ',Fz',Fy',e1,More.refl C,e2,e3,e4⟩
def Sub (bs l:List (Nat×Blk)):Prop:=∀ t b,lk t bs=some b->lk t l=some b
structure CtxOk (G:Pg):Prop where
 c:∀ k xs res,G.ctx k xs=some res->Valid G.P k xs res/\Enters G.P k
 b:∀ k cells xs res,G.ctxB k cells xs=some res->ValidB G.P k cells xs res/\Enters G.P k
 s:∀ k sz xs ys,G.srt k sz xs=some ys->ValidS G.P k sz xs ys/\Enters G.P k
 l:∀ k d σ args σ' vs,G.inl k d σ args=some (σ',vs)->InlOK G.P k σ args σ' vs/\Enters G.P k
 i:∀ k caps xs,G.itr k caps=some xs->ItOK G.P k caps xs none/\Enters G.P k
 t:∀ k caps xs i,G.itr k caps=some xs->G.its k caps i=true->i < xs.length->ItOK G.P k caps (xs.take (i+1)) (some i)
 h:∀ k bs caps xs,G.itrH k bs caps=some xs->ItH G.P k bs caps xs none/\Enters G.P k:=by intro _ _ _ _ e; cases e
 r:∀ k bs args x,G.rd k bs args=some x->Enters G.P k/\∀ σ:St,Sub bs σ.blk->G.rd k σ.blk args=some x/\InlOK0 G.P k σ args σ [.fv false x]:=by intro _ _ _ _ e; cases e
 w:∀ k bs args s b x,G.wr k bs args=some (s,b,x)->Enters G.P k/\∀ σ:St,Sub bs σ.blk->lk s σ.blk≠none/\G.wr k σ.blk args=some (s,b,x)/\InlOK0 G.P k σ args { σ with blk:=put s b σ.blk } [.fv false x]:=by intro _ _ _ _ _ _ e; cases e
theorem fnOf_sound {f:V} {k:FuncId} {first captured:List V} (hf:fnOf f=some (k,first,captured)) {v:Value} (hv:RepV μ (shs σ) Fz Fy w f v) :
  ∃ vf vc,v = .func (.func k) vf vc/\Cells μ (shs σ) Fz Fy w first vf/\Cells μ (shs σ) Fz Fy w captured vc:=by
 unfold fnOf at hf
 split at hf
 ·simp only [Option.some.injEq,Prod.mk.injEq] at hf
  obtain ⟨rfl,rfl,rfl⟩:=hf
  cases hv with
  | fv _ _ _ hv =>
  cases hv with
  | fn _ _ _ vf vc hs hs' hr hr' =>
  refine ⟨vf,vc,rfl,⟨by simp [hs],fun j y hj=>?_⟩,by simp [hs'],fun j y hj=>?_⟩
  ·simp only [List.getElem?_map,Option.map_eq_some_iff] at hj
   obtain ⟨x,hx,rfl⟩:=hj
   exact .fv _ _ _ (hr j x hx)
  ·simp only [List.getElem?_map,Option.map_eq_some_iff] at hj
   obtain ⟨x,hx,rfl⟩:=hj
   exact .fv _ _ _ (hr' j x hx)
 ·simp only [Option.some.injEq,Prod.mk.injEq] at hf
  obtain ⟨rfl,rfl,rfl⟩:=hf
  cases hv with
  | fn _ _ _ vf vc hs hs' hr hr'=>exact ⟨vf,vc,rfl,⟨hs,hr⟩,hs',hr'⟩
 ·simp at hf
theorem cells_app {xs ys:List V} {as bs:Array Value} (hx:Cells μ (shs σ) Fz Fy w xs as) (hy:Cells μ (shs σ) Fz Fy w ys bs):Cells μ (shs σ) Fz Fy w (xs++ys) (as++bs):=by
 refine ⟨by simp [hx.1,hy.1],fun j y hj=>?_⟩
 rcases get_app hj with ⟨h1,h2⟩ | ⟨h1,h2⟩
 ·have:=hx.2 j y h2
  have e:(as++bs).getD j undef=as.getD j undef:=by
   have:j < as.size:=by rw [hx.1]; exact h1
   simp [Array.getD_eq_getD_getElem?,Array.getElem?_append,this]
  rw [e]; exact this
 ·have:=hy.2 _ y h2
  have e:(as++bs).getD j undef=bs.getD (j-xs.length) undef:=by
   have hng:¬ j < xs.length:=by omega
   simp [Array.getD_eq_getD_getElem?,Array.getElem?_append,hx.1,hng]
  rw [e]; exact this
theorem after_call (h:Sim C σ a w μ Fz Fy) {X:Nat->Prop} (hX:∀ b,X b->C.mine b/\b < w.heap.size/\(¬ Fy b/\¬ C.M b)/\∀ t,lk t σ.blk≠none->∀ base,μ t≠some (b,base)) {w':World} (hst:Stays C σ w w' μ Fy) {d:Nat} (hd:d < C.N) {res:List TV} {v:Value} {us:List Value} {m:Nat->Option (Nat×Nat)} (hR:Res X Fz w w' res v us m) :
  ∃ μ' Fz' Fy',Sim C { (addRes d (res.length==1) 0 res σ).1 with env:=put d (packV (addRes d (res.length==1) 0 res σ).2) (addRes d (res.length==1) 0 res σ).1.env } (a.put (some d) v) w' μ' Fz' Fy':=by
 have h1:=h.stays hst
 have h2:Sim C σ a w' μ (newX X Fz w w' m) (fun b=>Fy b\/((w.heap.size<=b\/X b)/\b < w'.heap.size/\∀ j base,m j≠some (b,base))):=by
  refine h1.fix (fun b hb=>.inl hb) (fun b hb=>.inl hb) (fun b hb=>hb.imp (h.zy b) id) (fun b hb=>?_) (fun b hb=>?_) (fun b hb=>?_) (fun s hp b base hm hb=>?_) (fun b hM hb=>?_)
  ·rcases hb with hb | ⟨_,hb,_⟩
   ·exact Nat.lt_of_lt_of_le (h.yl b hb) hst.size
   ·exact hb
  ·rcases hb with hb | ⟨hb | hb,_,_⟩
   ·exact h.z0 b hb
   ·exact .inr (.inl (Nat.le_trans h.big hb))
   ·exact .inr (hX b hb).1
  ·rcases hb with hb | ⟨hb | hb,_,_⟩
   ·exact h.y0 b hb
   ·exact .inr (.inl (Nat.le_trans h.big hb))
   ·exact .inr (hX b hb).1
  ·have hl:=h.live s hp b base hm
   rcases hb with hb | ⟨hb | hb,_,_⟩
   ·exact hl.2.2 hb
   ·omega
   ·exact (hX b hb).2.2.2 s hp base hm
  ·have hl:=h.fm b hM
   rcases hb with hb | ⟨hb | hb,_,_⟩
   ·exact hl.2.1 hb
   ·omega
   ·exact (hX b hb).2.2.1.2 hM
 obtain ⟨μ',h3,h4,h5,_,_⟩:=addRes_sound (σ:=σ) (a:=a) (w:=w') (μ:=μ) d (res.length==1) m hR.apart (fun j b base hm=>by
  obtain ⟨n1,n2⟩:=hR.new j b base hm
  refine ⟨?_,n2,?_,?_⟩
  ·rcases n1 with n1 | n1
   ·exact .inl (Nat.le_trans h.big n1)
   ·exact (hX b n1).1
  ·rintro (hb | ⟨_,_,hb⟩)
   ·rcases n1 with n1 | n1
    ·exact absurd (h.yl b hb) (by omega)
    ·exact (hX b n1).2.2.1.1 hb
   ·exact hb j base hm
  ·intro hM
   rcases n1 with n1 | n1
   ·exact absurd (h.fm b hM).1 (by omega)
   ·exact (hX b n1).2.2.1.2 hM) (Nat.lt_of_lt_of_le hd h.small) res 0 us h2 (fun k b base hm t ht b' base' hm' e=>by
  subst e
  rcases (hR.new k b' base hm).1 with n1 | n1
  ·have:=(h.live t ht b' base' hm').2.1
   omega
  ·exact (hX b' n1).2.2.2 t ht base' hm') (fun i r hi=>by
  obtain ⟨u,hu,hc⟩:=hR.comp i r hi
  exact ⟨u,hu,by rw [Nat.zero_add]; exact hc⟩)
 have hfin:RepV μ' (shs (addRes d (res.length==1) 0 res σ).1) (newX X Fz w w' m) (fun b=>Fy b\/((w.heap.size<=b\/X b)/\b < w'.heap.size/\∀ j base,m j≠some (b,base))) w' (packV (addRes d (res.length==1) 0 res σ).2) v:=?_
 ·exact ⟨μ',_,_,h3.set d hd _ _ hfin⟩
 rw [hR.val]
 by_cases hone:res.length=1
 ·have hl2:(addRes d (res.length==1) 0 res σ).2.length=1:=by rw [h4,hone]
  have hus:us.length=1:=by rw [hR.len,hone]
  obtain ⟨y,hy⟩:=List.length_eq_one_iff.1 hl2
  obtain ⟨u,hu⟩:=List.length_eq_one_iff.1 hus
  obtain ⟨u',hu',hr⟩:=h5 0 y (by rw [hy]; rfl)
  rw [hu] at hu'
  simp only [List.getElem?_cons_zero,Option.some.injEq] at hu'; subst hu'
  rw [hy,hu]
  exact hr
 ·have hpk:∀ us:List Value,us.length≠1->pack us = .tuple us.toArray:=by
   intro us hne
   match us,hne with
   | [],_=>rfl
   | _ :: _ :: _,_=>rfl
  have hpv:∀ us:List V,us.length≠1->packV us = .tup us:=by
   intro us hne
   match us,hne with
   | [],_=>rfl
   | _ :: _ :: _,_=>rfl
  rw [hpk us (by rw [hR.len]; exact hone),hpv _ (by rw [h4]; exact hone)]
  refine .tup _ _ (by simp [hR.len,h4]) fun j y hj=>?_
  obtain ⟨u,hu,hr⟩:=h5 j y hj
  have:us.toArray.getD j undef=u:=by simp [Array.getD_eq_getD_getElem?,hu]
  rw [this]; exact hr
theorem callA_sound (hT:TOk G) (hC:CtxOk G) (h:Sim C σ a w μ Fz Fy) {d:Nat} (hd:d < C.N) {f:V} {args:List V} {σ':St} (hs:callA G σ d f args=some σ') {o:Oper} {fo:Operand} {ao:Array Operand} {ats:Array TypeId}
  (ho:o.op = .call ⟨.value fo,ao,ats⟩) (hdst:o.dst=some d) (hf:RepV μ (shs σ) Fz Fy w f (a.eval fo)) (ha:Cells μ (shs σ) Fz Fy w args (ao.map a.eval)) {K:Act->World->Prop} {Q:Exit->Act->World->Prop}
  (hK:∀ a' w' μ' Fz' Fy',Sim C σ' a' w' μ' Fz' Fy'->K a' w'):o.wp G.P a w K Q:=by
 unfold callA at hs
 split at hs
 ·rename_i k first captured hfn
  split at hs
  ·rename_i xs hxs
   split at hs
   ·rename_i res hres
    simp only [Option.some.injEq] at hs
    obtain ⟨hval,fn,hfn1,hfn2,hfn3⟩:=hC.c k xs res hres
    obtain ⟨vf,vc,hve,hcf,hcc⟩:=fnOf_sound hfn hf
    have hall:=cells_app (cells_app hcf ha) hcc
    obtain ⟨x1,x2⟩:=argsA_sound h (us:=(vf++ao.map a.eval++vc).toList) hxs (by rw [Array.length_toList,hall.1]) (fun j y hj=>by
     have:=hall.2 j y hj
     have hjl:j < (vf++ao.map a.eval++vc).size:=by rw [hall.1]; exact (List.getElem?_eq_some_iff.1 hj).1
     refine ⟨(vf++ao.map a.eval++vc)[j],?_,?_⟩
     ·rw [Array.getElem?_toList,Array.getElem?_eq_getElem hjl]
     ·rw [Array.getD_eq_getD_getElem?,Array.getElem?_eq_getElem hjl] at this
      exact this)
    have hall2:∀ b,AllOf Fy σ μ b->b < w.heap.size:=by
     rintro b (hb | ⟨s,hp,base,hm⟩)
     ·exact h.yl b hb
     ·exact (h.live s hp b base hm).2.1
    have hcall:=hval w Fz (AllOf Fy σ μ) (vf++ao.map a.eval++vc).toList (fun b hb=>.inl (h.zy b hb)) hall2 (by rw [Array.length_toList,hall.1,x1]) x2 h.gl
    have hrun:(execOp a.eval o).run G.P w = .ok (.enter k (vf++ao.map a.eval++vc)) w:=by
     unfold execOp
     simp only [ho,resolve,Deferred.ofValue,hve,Sem.run_bind,Sem.run_pure,Result.andThen_ok,invoke,callFunc,run_program,hfn1]
     simp [hfn2,hfn3]
    unfold Oper.wp
    rw [hrun,Oper.upon_enter]
    simp only [Array.toArray_toList] at hcall
    refine hcall.mono ?_
    rintro e w' ⟨v,us,m,rfl,hbelow,hR⟩
    simp only
    obtain ⟨μ',Fz',Fy',hS⟩:=after_call h (X:=noX) (fun b hb=>hb.elim) (Stays.of_below h hbelow) hd hR
    subst hs
    rw [hdst]
    exact hK _ _ _ _ _ hS
   ·simp at hs
  ·simp at hs
 ·simp at hs
theorem pack_rep {μ sh:Mu} {Fz Fy:Nat->Prop} {w:World} {vs:List V} {rs:List Value} (hl:rs.length=vs.length) (hr:∀ (j:Nat) (y:V),vs[j]? = some y->∃ u,rs[j]? = some u/\RepV μ sh Fz Fy w y u):RepV μ sh Fz Fy w (packV vs) (pack rs):=by
 have many:∀ (vs:List V) (rs:List Value),vs.length≠1->rs.length=vs.length->packV vs = .tup vs/\pack rs = .tuple rs.toArray:=by
  intro vs rs hne hl
  match vs,rs,hne,hl with
  | [],[],_,_=>exact ⟨rfl,rfl⟩
  | _ :: _ :: _,_ :: _ :: _,_,_=>exact ⟨rfl,rfl⟩
 by_cases h1:vs.length=1
 ·match vs,rs,h1,hl,hr with
  | [y],[u],_,_,hr =>
   obtain ⟨u',hu,h⟩:=hr 0 y rfl
   simp only [List.getElem?_cons_zero,Option.some.injEq] at hu; subst hu
   exact h
 ·obtain ⟨e1,e2⟩:=many vs rs h1 hl
  rw [e1,e2]
  refine .tup _ _ (by simp [hl]) fun j y hj=>?_
  obtain ⟨u,hu,h⟩:=hr j y hj
  have:rs.toArray.getD j undef=u:=by simp [Array.getD_eq_getD_getElem?,hu]
  rw [this]; exact h
end
def callB (G:Pg) (σ:St) (d:Nat) (f:V) (args:List V):Option St :=
 match fnOf f,args with
 | some (k,[],[]),.ptr s 0 :: rest=>match lk s σ.blk with
  | some (.box cells)=>match argsA (σ.drop s) cells,argsA (σ.drop s) rest with
   | some cs,some xs=>match G.ctxB k cs xs with
    | some res=>some { (addRes d (res.length==1) 0 res (σ.drop s)).1 with env:=put d (packV (addRes d (res.length==1) 0 res (σ.drop s)).2) (addRes d (res.length==1) 0 res (σ.drop s)).1.env }
    | none=>none
   | _,_=>none
  | _=>none
 | _,_=>none
def srtA (G:Pg) (σ:St) (d:Nat) (f:V) (args:List V):Option St :=
 match fnOf f,args with
 | some (k,[],[]),[.own s 0 len]=>match lk s σ.blk with
  | some (.arr sz xs)=>if len=xs.length then match G.srt k sz xs with
    | some ys=>some { σ with env:=put d (.tup []) σ.env,blk:=put s (.arr sz ys) σ.blk }
    | none=>none
   else none
  | _=>none
 | _,_=>none
section
variable {C:Base} {σ:St} {a:Act} {w w':World} {μ:Mu} {Fz Fy:Nat->Prop} {G:Pg}
theorem RepV.drop {x:V} {v:Value} (s:Nat) (h:RepV μ (shs σ) Fz Fy w x v):RepV μ (shs (σ.drop s)) Fz Fy w x v :=
 h.mono (fun _ x=>x) (fun _ x=>x) (fun _ _=>rfl) (fun _ _=>rfl) (Keeps.refl w) (fun _=>False) (fun t _=>by
  by_cases e:t=s
  ·left; simp [shs,St.drop,lk_rm,e]
  ·right; simp [shs,St.drop,lk_rm,e]) (fun _ x=>x) (fun _ x=>x.elim)
theorem stays_of_x (h:Sim C σ a w μ Fz Fy) {s b0 base:Nat} (hs:lk s σ.blk≠none) (hm:μ s=some (b0,base)) {F0:Nat->Prop} (hb:BelowX { N:=0,B:=w.heap.size,w0:=w,Fz0:=F0,X:=fun b=>b=b0 } w'):Stays C (σ.drop s) w w' μ Fy:=by
 have hlive:=h.live s hs b0 base hm
 have hother:∀ r,r < w.heap.size->r≠b0->w'.heap[r]? = w.heap[r]?:=fun r hr hne=>hb.block r hr hne
 have hltc:∀ (r:Nat) (o:Obj),w.heap[r]? = some o->r < w.heap.size:=fun r o hr=>(Array.getElem?_eq_some_iff.1 hr).1
 have hk:Keeps w w':=fun r x e fr hx=>by
  by_cases er:r=b0
  ·exact hb.kept r x e fr er (hltc r _ hx) hx
  ·exact ⟨x,(hother r (hltc r _ hx) er).trans hx,rfl⟩
 refine { keeps:=hk,fixed:=fun r hr=>hother r (h.yl r hr) (fun e=>hlive.2.2 (e▸hr)),own:=fun t ht r base' hr=>?_,below:=?_,size:=hb.size,rest:=fun r hr=>hother r (h.fm r hr).1 (fun e=>(h.fm r hr).2.2 s hs base (e▸hm)),drawn:=hb.drawn }
 ·simp only [St.drop,lk_rm] at ht
  by_cases et:t=s
  ·simp [et] at ht
  ·simp only [et,if_false] at ht
   exact hother r (h.live t ht r base' hr).2.1 (h.inj t s ht hs et r base' b0 base hr hm)
 ·have hB:=h.below
  refine ⟨hb.os.trans hB.os,hb.tape.trans hB.tape,hb.output.trans hB.output,Nat.le_trans hB.size hb.size,fun k hk1 hx=>?_,fun k c e fr hx hk1 hc=>?_,Nat.le_trans hB.drawn hb.drawn⟩
  ·have hne:k≠b0:=fun e=>by
    subst e
    rcases hlive.1 with h1 | h1
    ·omega
    ·exact hx h1
   exact (hother k (Nat.lt_of_lt_of_le hk1 h.big) hne).trans (hB.block k hk1 hx)
  ·obtain ⟨c1,h1,h2⟩:=hB.kept k c e fr hx hk1 hc
   obtain ⟨c2,h3,h4⟩:=hk k c1 e fr h1
   exact ⟨c2,h3,h4.trans h2⟩
theorem Sim.upd' (h:Sim C σ a w μ Fz Fy) {s:Nat} {B0 B1:Blk} (hb:lk s σ.blk=some B0) (hsh:shp B1=shp B0) (hst:Stays C (σ.drop s) w w' μ Fy) (hnew:RepB μ (shs σ) Fz Fy w' s B1):Sim C { σ with blk:=put s B1 σ.blk } a w' μ Fz Fy:=by
 have hp:∀ t,lk t (put s B1 σ.blk)≠none->lk t σ.blk≠none:=fun t ht=>by
  by_cases e:t=s
  ·subst e; simp [hb]
  ·simpa [lk_put,e] using ht
 refine { defers:=fun d hd=>let ⟨D,e1,e2,e3,e4⟩:=h.defers d hd; ⟨D,e1,e2,e3,(hst.fixed D e2).trans e4⟩,dist:=h.dist,small:=h.small,y0:=h.y0,lp:=h.lp,mm:=h.mm,yd:=h.yd_stays hst.keeps hst.below hst.size hst.rest hst.drawn,fm:=fun r hr=>⟨Nat.lt_of_lt_of_le (h.fm r hr).1 hst.size,(h.fm r hr).2.1,fun t ht=>(h.fm r hr).2.2 t (hp t ht)⟩,size:=h.size,env:=fun k v hk=>⟨(h.env k v hk).1,?_⟩,blk:=fun t x hx=>?_,live:=fun t ht r base' hr=>?_,inj:=fun t u ht hu=>h.inj t u (hp t ht) (hp u hu),zy:=h.zy,yl:=fun r hr=>Nat.lt_of_lt_of_le (h.yl r hr) hst.size,z0:=h.z0,below:=hst.below,big:=Nat.le_trans h.big hst.size,gl:=h.gl.mono (fun _ x=>x) (fun b x=>hst.fixed b (h.zy b x)) }
 ·rw [shs_put hb hsh]
  exact (h.env k v hk).2.mono (fun _ x=>x) (fun _ x=>x) (fun b x=>hst.fixed b (h.zy b x)) hst.fixed hst.keeps (fun _=>False) (fun _ _=>.inr ⟨rfl,rfl⟩) (fun _ x=>x) (fun _ x=>x.elim)
 ·rw [shs_put hb hsh]
  by_cases et:t=s
  ·subst et
   simp only [lk_put_same,Option.some.injEq] at hx
   subst hx; exact hnew
  ·simp only [lk_put,et,if_false] at hx
   exact (h.blk t x hx).mono (fun _ x=>x) (fun _ x=>x) (fun b x=>hst.fixed b (h.zy b x)) hst.fixed hst.keeps (fun _=>False) (fun _ _=>.inr ⟨rfl,rfl⟩) (fun _ x=>x) rfl
    (hst.own t (by simp [St.drop,lk_rm,et,hx])) (fun _ x=>x.elim)
 ·obtain ⟨k1,k2,k3⟩:=h.live t (hp t ht) r base' hr
  exact ⟨k1,Nat.lt_of_lt_of_le k2 hst.size,k3⟩
theorem run_enter {P:Program} {k:FuncId} (he:Enters P k) {o:Oper} {fo:Operand} {ao:Array Operand} {ats:Array TypeId} (ho:o.op = .call ⟨.value fo,ao,ats⟩) {vf vc:Array Value} (hve:a.eval fo = .func (.func k) vf vc) :
  (execOp a.eval o).run P w = .ok (.enter k (vf++ao.map a.eval++vc)) w:=by
 obtain ⟨fn,hfn1,hfn2,hfn3⟩:=he
 unfold execOp
 simp only [ho,resolve,Deferred.ofValue,hve,Sem.run_bind,Sem.run_pure,Result.andThen_ok,invoke,callFunc,run_program,hfn1]
 simp [hfn2,hfn3]
theorem callB_sound (hT:TOk G) (hC:CtxOk G) (h:Sim C σ a w μ Fz Fy) {d:Nat} (hd:d < C.N) {f:V} {args:List V} {σ':St} (hs:callB G σ d f args=some σ') {o:Oper} {fo:Operand} {ao:Array Operand} {ats:Array TypeId}
  (ho:o.op = .call ⟨.value fo,ao,ats⟩) (hdst:o.dst=some d) (hf:RepV μ (shs σ) Fz Fy w f (a.eval fo)) (ha:Cells μ (shs σ) Fz Fy w args (ao.map a.eval)) {K:Act->World->Prop} {Q:Exit->Act->World->Prop}
  (hK:∀ a' w' μ' Fz' Fy',Sim C σ' a' w' μ' Fz' Fy'->K a' w'):o.wp G.P a w K Q:=by
 unfold callB at hs
 split at hs
 ·rename_i k s rest hfn
  split at hs
  ·rename_i cells hbox
   split at hs
   ·rename_i cs xs hcs hxs
    split at hs
    ·rename_i res hres
     simp only [Option.some.injEq] at hs
     obtain ⟨hval,hent⟩:=hC.b k cs xs res hres
     obtain ⟨vf,vc,hve,hcf,hcc⟩:=fnOf_sound hfn hf
     have e1:vf=#[]:=Array.eq_empty_of_size_eq_zero (by have:=hcf.1; simpa using this)
     have e2:vc=#[]:=Array.eq_empty_of_size_eq_zero (by have:=hcc.1; simpa using this)
     subst e1; subst e2
     have hsne:lk s σ.blk≠none:=by simp [hbox]
     have hB:=h.blk s _ hbox
     cases hB with
     | box _ b0 c e hm hh hc hr =>
     have hlive:=h.live s hsne b0 0 hm
     have hd':=h.drop s
     obtain ⟨us,hus⟩:∃ us,(ao.map a.eval).toList=us:=⟨_,rfl⟩
     have hsz:=ha.1
     have hlen:us.length=rest.length+1:=by rw [<-hus]; simpa using hsz
     match us,hus,hlen with
     | u0 :: us',hus,hlen =>
     have hul:us'.length=rest.length:=by simp only [List.length_cons] at hlen; omega
     have hget:∀ j,(ao.map a.eval).getD j undef=(u0 :: us').getD j undef:=fun j=>by
      rw [<-hus]; simp [Array.getD_eq_getD_getElem?,List.getD_eq_getElem?_getD]
     have hu0:u0 = .pointer (some ⟨b0,0,none⟩):=by
      have:=ha.2 0 _ rfl
      rw [hget] at this
      simp only [List.getD_cons_zero] at this
      cases this with
      | ptrx _ _ _ hx=>exact (hsne (by simpa [shs] using hx)).elim
      | ptr _ _ b base hm' =>
       rw [hm] at hm'
       simp only [Option.some.injEq,Prod.mk.injEq] at hm'
       obtain ⟨rfl,rfl⟩:=hm'
       rfl
     have hall2:∀ b,AllOf Fy (σ.drop s) μ b->b < w.heap.size:=by
      rintro b (hb | ⟨t,hp,base,hm'⟩)
      ·exact h.yl b hb
      ·exact (hd'.live t hp b base hm').2.1
     have hnb0:¬ AllOf Fy (σ.drop s) μ b0:=by
      rintro (hb | ⟨t,hp,base,hm'⟩)
      ·exact hlive.2.2 hb
      ·have hp':lk t σ.blk≠none/\t≠s:=by
        simp only [St.drop,lk_rm] at hp
        by_cases et:t=s
        ·simp [et] at hp
        ·simp only [et,if_false] at hp; exact ⟨hp,et⟩
       exact h.inj t s hp'.1 hsne hp'.2 b0 base b0 0 hm' hm rfl
     obtain ⟨x1,x2⟩:=argsA_sound hd' (us:=us') hxs (by omega) (fun j y hj=>by
      have:=ha.2 (j+1) y (by simpa using hj)
      rw [hget] at this
      have hjl:j < us'.length:=by have:=(List.getElem?_eq_some_iff.1 hj).1; omega
      exact ⟨us'[j],List.getElem?_eq_getElem hjl,by simpa [List.getD_eq_getElem?_getD,hjl] using this.drop s⟩)
     obtain ⟨y1,y2⟩:=argsA_sound hd' (us:=c.toList) hcs (by simpa using hc) (fun j y hj=>by
      have:=hr j y hj
      have hjl:j < c.size:=by rw [hc]; exact (List.getElem?_eq_some_iff.1 hj).1
      exact ⟨c[j],by simp [hjl],by simpa [Array.getD_eq_getD_getElem?,hjl] using this.drop s⟩)
     have hcall:=hval w Fz (AllOf Fy (σ.drop s) μ) b0 c e us' (fun b hb=>.inl (h.zy b hb)) hall2 hnb0 hh (by rw [hc,y1]) (fun j p hj=>by
      obtain ⟨u,hu,hru⟩:=y2 j p hj
      have:c.getD j undef=u:=by
       have hjl:j < c.size:=by have:=(List.getElem?_eq_some_iff.1 hu).1; simpa using this
       simp only [Array.getElem?_toList,Array.getElem?_eq_getElem hjl,Option.some.injEq] at hu
       simp [Array.getD_eq_getD_getElem?,hjl,hu]
      rw [this]; exact hru) (by omega) x2 h.gl
     have hargs:#[]++ao.map a.eval++#[]=(u0 :: us').toArray:=by
      apply Array.toList_inj.1; simp [<-hus]
     have hrun:=run_enter (w:=w) hent ho hve
     rw [hargs] at hrun
     unfold Oper.wp
     rw [hrun,Oper.upon_enter,hu0]
     refine hcall.mono ?_
     rintro ex w' ⟨v,us,m,rfl,hbelow,hR⟩
     simp only
     obtain ⟨μ',Fz',Fy',hS⟩:=after_call hd' (X:=fun b=>b=b0) (fun b hb=>by
      subst hb
      refine ⟨hlive.1,hlive.2.1,⟨hlive.2.2,fun hM=>(h.fm _ hM).2.2 s hsne _ hm⟩,fun t ht base hm'=>?_⟩
      exact hnb0 (.inr ⟨t,ht,base,hm'⟩)) (stays_of_x h hsne hm hbelow) hd hR
     subst hs
     rw [hdst]
     exact hK _ _ _ _ _ hS
    ·simp at hs
   ·simp at hs
  ·simp at hs
 ·simp at hs
theorem srtA_sound (hT : TOk G) (hC : CtxOk G) (h : Sim C σ a w μ Fz Fy) {d : Nat} (hd : d < C.N) {f : V} {args : List V} {σ' : St} (hs : srtA G σ d f args = some σ') {o : Oper} {fo : Operand} {ao : Array Operand} {ats : Array TypeId}
    (ho : o.op = .call ⟨.value fo,ao,ats⟩) (hdst : o.dst = some d) (hf : RepV μ (shs σ) Fz Fy w f (a.eval fo)) (ha : Cells μ (shs σ) Fz Fy w args (ao.map a.eval)) {K : Act → World → Prop} {Q : Exit → Act → World → Prop}
    (hK : ∀ a' w' μ' Fz' Fy',Sim C σ' a' w' μ' Fz' Fy' → K a' w') : o.wp G.P a w K Q := by
  unfold srtA at hs
  split at hs
  · rename_i k s len hfn
    split at hs
    · rename_i sz xs harr
      split at hs
      · rename_i hlen
        split at hs
        · rename_i ys hys
          simp only [Option.some.injEq] at hs
          obtain ⟨hval,hent⟩ := hC.s k sz xs ys hys
          obtain ⟨vf,vc,hve,hcf,hcc⟩ := fnOf_sound hfn hf
          have e1 : vf = #[] := Array.eq_empty_of_size_eq_zero (by have := hcf.1; simpa using this)
          have e2 : vc = #[] := Array.eq_empty_of_size_eq_zero (by have := hcc.1; simpa using this)
          subst e1; subst e2
          have hsne : lk s σ.blk ≠ none := by simp [harr]
          have hsz : ao.size = 1 := by have := ha.1; simpa using this
          have hargs : #[] ++ ao.map a.eval ++ #[] = #[(ao.map a.eval).getD 0 undef] := by
            apply Array.ext
            · simp [hsz]
            · intro i h1 h2
              have : i = 0 := by simp at h2; omega
              subst this
              simp [Array.getD_eq_getD_getElem?,hsz]
          have h0 := ha.2 0 _ rfl
          have hrun := run_enter (w := w) hent ho hve
          rw [hargs] at hrun
          generalize (ao.map a.eval).getD 0 undef = u at h0 hrun
          have hput : ∀ (w' : World),Sim C { σ with blk := put s (.arr sz ys) σ.blk } a w' μ Fz Fy → Sim C σ' (a.put (some d) (.tuple #[])) w' μ Fz Fy := fun w' hS => by
            subst hs
            exact hS.set d hd (.tup []) _ (.tup [] #[] rfl (by simp))
          have hshp : shp (.arr sz ys) = shp (.arr sz xs) := by simp [shp,hval.len]
          cases h0 with
          | ownx _ _ _ _ hx => exact (hsne (by simpa [shs] using hx)).elim
          | own _ _ _ ad cap sz' n' hsh hn hcap hm =>
          simp only [shs,harr,Option.map_some,shp,Option.some.injEq,Prod.mk.injEq] at hsh
          obtain ⟨rfl,rfl⟩ := hsh
          subst hlen
          unfold Oper.wp
          by_cases hnil : xs = []
          · subst hnil
            have hynil : ys = [] := List.length_eq_zero_iff.1 hval.len
            subst hynil
            rw [show a.eval = a.eval from rfl]
            have hcall := hval.nil rfl w ad cap
            rw [hrun,Oper.upon_enter]
            refine hcall.mono ?_
            rintro ex w' ⟨rfl,hbelow⟩
            simp only
            rw [hdst]
            refine hK _ _ _ _ _ (hput w' (Sim.upd' h harr hshp ?_ (.nil _)))
            have hst := Stays.of_below h hbelow
            exact { keeps := hst.keeps,fixed := hst.fixed,own := fun t ht => hst.own t (by
              simp only [St.drop,lk_rm] at ht
              by_cases et : t = s
              · simp [et] at ht
              · simpa [et] using ht),below := hst.below,size := hst.size,rest := hst.rest,drawn := hst.drawn }
          · have hpos : 0 < xs.length := List.length_pos_iff.2 hnil
            have hB := h.blk s _ harr
            cases hB with
            | nil => exact absurd rfl hnil
            | arr _ _ b0 base c e hmb hh hc hcs hr =>
            have hlive := h.live s hsne b0 base hmb
            rcases hm with hm | ⟨b1,base1,hm1,had,hroom⟩
            · omega
            · rw [hmb] at hm1
              simp only [Option.some.injEq,Prod.mk.injEq] at hm1
              obtain ⟨rfl,rfl⟩ := hm1
              simp only [Nat.zero_mul,Nat.add_zero,Nat.zero_add] at had hroom
              subst had
              obtain ⟨c1,e1',hh1,hroom⟩ := hroom
              rw [hh] at hh1
              simp only [Option.some.injEq,Obj.cells.injEq] at hh1
              obtain ⟨rfl,rfl,_⟩ := hh1
              have hcall := hval.run hnil w Fz Fy b0 base c e cap h.zy h.yl hlive.2.2 hh hcap hroom hr
              rw [hrun,Oper.upon_enter]
              refine hcall.mono ?_
              rintro ex w' ⟨rfl,hbelow,c',hh',hcs',hr'⟩
              simp only
              rw [hdst]
              refine hK _ _ _ _ _ (hput w' (Sim.upd' h harr hshp (stays_of_x h hsne hmb hbelow) ?_))
              exact .arr sz ys b0 base c' e hmb hh' (by rw [hval.len,hcs']; exact hc) hval.ok hr'
        · simp at hs
      · simp at hs
    · simp at hs
  · simp at hs
end
end Go.Proofs.YtejodhjhddnbeaaDoor.E
