/-
  The engine: a symbolic run of a body, proved sound once for any program. Conditions: none.
-/
import Derived.WalkKit
import Derived.LoopN
import Derived.Orders
set_option linter.unusedVariables false
set_option linter.unusedSimpArgs false
namespace Go.Proofs.YtejodhjhddnbeaaDoor.E
open Go Go.RowKit
inductive FV where
 | int (k:IntKind) (n:Int)
 | bool (b:Bool)
 | str (s:ByteArray)
 | sl (clip:Bool) (sz:Nat) (xs:List FV)
 | pt (cells:List FV) (off:Nat)
 | agg (cells:List FV)
 | fn (f:Fn) (first captured:List FV)
 | rb (f:FuncId) (pre post:List FV)
 | nilfn
 | nilpt
 | nilif
 | nilmp
 | top
def cellsOf:FV->List FV
 | .agg cs=>cs
 | x=>[x]
def nagg:FV->Bool
 | .agg _=>false
 | _=>true
def cellsOK (sz:Nat) (x:FV):Bool:=(cellsOf x).length==sz&&(cellsOf x).all nagg
theorem ok_len {sz:Nat} {x:FV} (h:cellsOK sz x=true):(cellsOf x).length=sz:=by
 simp only [cellsOK,Bool.and_eq_true,beq_iff_eq] at h; exact h.1
theorem ok_nagg {sz:Nat} {x:FV} (h:cellsOK sz x=true) {j:Nat} {y:FV} (hj:(cellsOf x)[j]? = some y):nagg y=true:=by
 simp only [cellsOK,Bool.and_eq_true,List.all_eq_true] at h; exact h.2 y (List.mem_of_getElem? hj)
def flat1:FV->Bool
 | .int _ _=>true
 | .bool _=>true
 | .str _=>true
 | .nilfn=>true
 | .nilpt=>true
 | .nilif=>true
 | .nilmp=>true
 | .top=>true
 | .fn _ [] []=>true
 | _=>false
def flat:FV->Bool
 | .agg cs=>cs.all flat1
 | x=>flat1 x
def lk {α:Type} (k:Nat):List (Nat×α)->Option α
 | []=>none
 | (j,v) :: r=>if k=j then some v else lk k r
def put {α:Type} (k:Nat) (v:α):List (Nat×α)->List (Nat×α)
 | []=>[(k,v)]
 | (j,u) :: r=>if k=j then (k,v) :: r else if k < j then (k,v) :: (j,u) :: r else (j,u) :: put k v r
def rm {α:Type} (k:Nat):List (Nat×α)->List (Nat×α)
 | []=>[]
 | (j,u) :: r=>if k=j then rm k r else (j,u) :: rm k r
section
variable {α:Type}
theorem lk_put_same (k:Nat) (v:α):∀ l,lk k (put k v l)=some v
 | []=>by simp [put,lk]
 | (j,u) :: r=>by
  simp only [put]
  split
  ·simp [lk]
  ·split
   ·simp [lk]
   ·simp [lk, *,lk_put_same k v r]
theorem lk_put_ne {k j:Nat} (v:α) (h:j≠k):∀ l,lk j (put k v l)=lk j l
 | []=>by simp [put,lk,h]
 | (i,u) :: r=>by
  simp only [put]
  split
  ·rename_i e; subst e; simp [lk,h]
  ·split
   ·simp [lk,h]
   ·simp [lk,lk_put_ne v h r]
theorem lk_put (k j:Nat) (v:α) (l:List (Nat×α)):lk j (put k v l)=if j=k then some v else lk j l:=by
 by_cases h:j=k
 ·subst h; simp [lk_put_same]
 ·simp [h,lk_put_ne v h]
theorem lk_rm_same (k:Nat):∀ l:List (Nat×α),lk k (rm k l)=none
 | []=>rfl
 | (j,u) :: r=>by
  simp only [rm]
  split
  ·exact lk_rm_same k r
  ·simp [lk, *,lk_rm_same k r]
theorem lk_rm_ne {k j:Nat} (h:j≠k):∀ l:List (Nat×α),lk j (rm k l)=lk j l
 | []=>rfl
 | (i,u) :: r=>by
  simp only [rm]
  split
  ·rename_i e; subst e; simp [lk,h,lk_rm_ne h r]
  ·simp [lk,lk_rm_ne h r]
theorem lk_rm (k j:Nat) (l:List (Nat×α)):lk j (rm k l)=if j=k then none else lk j l:=by
 by_cases h:j=k
 ·subst h; simp [lk_rm_same]
 ·simp [h,lk_rm_ne h]
theorem lk_filter (p:Nat->Bool) (k:Nat):∀ l:List (Nat×α),lk k (l.filter fun e=>p e.1)=if p k then lk k l else none
 | []=>by simp [lk]
 | (j,u) :: r=>by
  have ih:=lk_filter p k r
  by_cases hj:p j
  ·simp only [List.filter_cons,hj,if_true,lk]
   by_cases e:k=j
   ·subst e; simp [hj]
   ·simp [e,ih]
  ·simp only [List.filter_cons,hj,lk]
   by_cases e:k=j
   ·subst e; simp [hj,ih]
   ·simp [e,ih]
theorem lk_map (f:α->α) (k:Nat):∀ l:List (Nat×α),lk k (l.map fun e=>(e.1,f e.2))=(lk k l).map f
 | []=>rfl
 | (j,u) :: r=>by
  simp only [List.map_cons,lk]
  split
  ·rfl
  ·exact lk_map f k r
end
inductive RepF (Fz:Nat->Prop) (w:World):FV->Value->Prop where
 | int (k:IntKind) (n:Int):RepF Fz w (.int k n) (.int k n)
 | bool (b:Bool):RepF Fz w (.bool b) (.bool b)
 | str (s:ByteArray):RepF Fz w (.str s) (.string s)
 | nilfn:RepF Fz w .nilfn .nilFunc
 | nilpt:RepF Fz w .nilpt (.pointer none)
 | nilif:RepF Fz w .nilif .nilIface
 | nilmp:RepF Fz w .nilmp (.map none)
 | top (v:Value) (h:v.oneCell'=true):RepF Fz w .top v
 | sl0 (clip:Bool) (sz:Nat) (a:Option Addr) (cap:Nat) (hc:clip=true->cap=0):RepF Fz w (.sl clip sz []) (.slice a 0 cap)
 | sl (clip:Bool) (sz:Nat) (xs:List FV) (b o len cap:Nat) (us:Nat->Nat->Value) (hlen:xs.length=len) (hcap:len<=cap) (hclip:clip=true->cap=len)
   (hb:Fz b) (hsz:∀ (i:Nat) (x:FV),xs[i]? = some x->cellsOK sz x=true)
   (hc:∀ (i:Nat) (x:FV) (j:Nat) (y:FV),xs[i]? = some x->(cellsOf x)[j]? = some y->w.cell? ⟨b,o+(i*sz+j),none⟩=some (us i j))
   (hr:∀ (i:Nat) (x:FV) (j:Nat) (y:FV),xs[i]? = some x->(cellsOf x)[j]? = some y->RepF Fz w y (us i j)):RepF Fz w (.sl clip sz xs) (.slice (some ⟨b,o,none⟩) len cap)
 | pt (cells:List FV) (off b o:Nat) (us:Nat->Value) (hb:Fz b) (hc:∀ (j:Nat) (y:FV),cells[j]? = some y->w.cell? ⟨b,o+j,none⟩=some (us j))
   (hr:∀ (j:Nat) (y:FV),cells[j]? = some y->RepF Fz w y (us j)):RepF Fz w (.pt cells off) (.pointer (some ⟨b,o+off,none⟩))
 | agg (cells:List FV) (vs:Array Value) (hs:vs.size=cells.length) (hr:∀ (j:Nat) (y:FV),cells[j]? = some y->RepF Fz w y (vs.getD j undef)):RepF Fz w (.agg cells) (.agg vs)
 | fn (f:Fn) (first captured:List FV) (vf vc:Array Value) (hs:vf.size=first.length) (hs':vc.size=captured.length)
   (hr:∀ (j:Nat) (y:FV),first[j]? = some y->RepF Fz w y (vf.getD j undef)) (hr':∀ (j:Nat) (y:FV),captured[j]? = some y->RepF Fz w y (vc.getD j undef)):RepF Fz w (.fn f first captured) (.func f vf vc)
 | rb (f:FuncId) (pre post:List FV) (b o:Nat) (vp vq:Array Value) (hb:Fz b) (hs:vp.size=pre.length) (hs':vq.size=post.length)
   (hc:w.cell? ⟨b,o,none⟩=some (.func (.func f) #[] (vp++#[.pointer (some ⟨b,o,none⟩)]++vq)))
   (hr:∀ (j:Nat) (y:FV),pre[j]? = some y->RepF Fz w y (vp.getD j undef)) (hr':∀ (j:Nat) (y:FV),post[j]? = some y->RepF Fz w y (vq.getD j undef)):RepF Fz w (.rb f pre post) (.pointer (some ⟨b,o,none⟩))
theorem RepF.mono {Fz Fz':Nat->Prop} {w w':World} (hf:∀ b,Fz b->Fz' b) (hw:∀ b,Fz b->w'.heap[b]? = w.heap[b]?) {x:FV} {v:Value} (h:RepF Fz w x v) :
  RepF Fz' w' x v:=by
 have hcell:∀ b o,Fz b->w'.cell? ⟨b,o,none⟩=w.cell? ⟨b,o,none⟩:=fun b o hb=>by simp [World.cell?,hw b hb]
 induction h with
 | int k n=>exact .int k n
 | bool b=>exact .bool b
 | str s=>exact .str s
 | nilfn=>exact .nilfn
 | nilpt=>exact .nilpt
 | nilif=>exact .nilif
 | nilmp=>exact .nilmp
 | top v h=>exact .top v h
 | sl0 clip sz a cap hc=>exact .sl0 clip sz a cap hc
 | sl clip sz xs b o len cap us hlen hcap hclip hb hsz hc hr ih=>exact .sl clip sz xs b o len cap us hlen hcap hclip (hf b hb) hsz (fun i x j y h1 h2=>(hcell b _ hb).trans (hc i x j y h1 h2)) ih
 | pt cells off b o us hb hc hr ih=>exact .pt cells off b o us (hf b hb) (fun j y h1=>(hcell b _ hb).trans (hc j y h1)) ih
 | agg cells vs hs hr ih=>exact .agg cells vs hs ih
 | fn f first captured vf vc hs hs' hr hr' ih ih'=>exact .fn f first captured vf vc hs hs' ih ih'
 | rb f pre post b o vp vq hb hs hs' hc hr hr' ih ih'=>exact .rb f pre post b o vp vq (hf b hb) hs hs' ((hcell b _ hb).trans hc) ih ih'
theorem RepF.of_flat1 {Fz Fz':Nat->Prop} {w w':World} {x:FV} {v:Value} (h:RepF Fz w x v) (hx:flat1 x=true):RepF Fz' w' x v:=by
 cases h with
 | int k n=>exact .int k n
 | bool b=>exact .bool b
 | str s=>exact .str s
 | nilfn=>exact .nilfn
 | nilpt=>exact .nilpt
 | nilif=>exact .nilif
 | nilmp=>exact .nilmp
 | top v h=>exact .top v h
 | sl0=>simp [flat1] at hx
 | sl=>simp [flat1] at hx
 | pt=>simp [flat1] at hx
 | agg=>simp [flat1] at hx
 | rb=>simp [flat1] at hx
 | fn f first captured vf vc hs hs' hr hr' =>
  cases first with
  | cons=>simp [flat1] at hx
  | nil =>
   cases captured with
   | cons=>simp [flat1] at hx
   | nil=>exact .fn f [] [] vf vc hs hs' (by simp) (by simp)
theorem RepF.of_flat {Fz Fz':Nat->Prop} {w w':World} {x:FV} {v:Value} (h:RepF Fz w x v) (hx:flat x=true):RepF Fz' w' x v:=by
 cases h with
 | agg cells vs hs hr =>
  simp only [flat,List.all_eq_true] at hx
  exact .agg cells vs hs fun j y hj=>(hr j y hj).of_flat1 (hx y (List.mem_of_getElem? hj))
 | int k n=>exact .int k n
 | bool b=>exact .bool b
 | str s=>exact .str s
 | nilfn=>exact .nilfn
 | nilpt=>exact .nilpt
 | nilif=>exact .nilif
 | nilmp=>exact .nilmp
 | top v h=>exact .top v h
 | sl0 clip sz a cap hc=>exact .sl0 clip sz a cap hc
 | sl=>simp [flat,flat1] at hx
 | pt=>simp [flat,flat1] at hx
 | rb=>simp [flat,flat1] at hx
 | fn f first captured vf vc hs hs' hr hr'=>exact (RepF.fn (Fz:=Fz) (w:=w) f first captured vf vc hs hs' hr hr').of_flat1 (by simpa [flat] using hx)
theorem cells_of_one {v:Value} (h:v.oneCell'=true):v.cells=#[v]:=by
 cases v<;>first | rfl | simp [Value.oneCell'] at h
theorem RepF.one {Fz:Nat->Prop} {w:World} {x:FV} {v:Value} (h:RepF Fz w x v) (hx:nagg x=true):v.oneCell'=true:=by
 cases h<;>first | rfl | assumption | simp [nagg] at hx
def YN:Nat:=99999
@[irreducible] def GH:Nat:=100000000
def hi (t:Nat):Bool:=Nat.ble 100000000 t
@[simp] theorem hi_eq (t:Nat):hi t=decide (100000000<=t):=by
 unfold hi; rw [Bool.eq_iff_iff]; simp
theorem hi_lt {t:Nat} (h:¬ hi t=true):t < GH:=by
 unfold GH; simpa using h
inductive V where
 | yv
 | top
 | fv (ro:Bool) (x:FV)
 | own (s off len:Nat)
 | ptr (s off:Nat)
 | pel (s i j:Nat)
 | agg (cells:List V)
 | fn (f:Fn) (first captured:List V)
 | map (s:Nat)
 | tup (cells:List V)
inductive Blk where
 | arr (sz:Nat) (xs:List FV)
 | box (cells:List V)
 | lst (sz n:Nat) (cells:List V)
 | mp (es:List (FV×V))
 | mit (mv:V) (since last:Nat) (seen:List Nat)
def shp:Blk->Nat×Nat
 | .arr sz xs=>(sz,xs.length)
 | .box cells=>(0,cells.length)
 | .lst sz n _=>(sz,n)
 | .mp _=>(0,0)
 | .mit _ _ _ _=>(0,0)
def bcells:Blk->List V
 | .arr _ _=>[]
 | .box cells=>cells
 | .lst _ _ cells=>cells
 | .mp es=>es.map (·.2)
 | .mit mv _ _ _=>[mv]
structure St where
 env:List (Nat×V)
 blk:List (Nat×Blk)
 tr:List (List FV):=[]
def roF (Fz Fy:Nat->Prop) (ro:Bool):Nat->Prop:=if ro then Fy else Fz
def Room (w:World) (b o n:Nat):Prop:=∃ (c:Array Value) (e:TypeId),w.heap[b]? = some (.cells c e (0,0))/\o+n<=c.size
inductive RepV (μ sh:Nat->Option (Nat×Nat)) (Fz Fy:Nat->Prop) (w:World):V->Value->Prop where
 | yv (l:Nat) (hm:μ YN=some (l,0)):RepV μ sh Fz Fy w .yv (.func (.yield l) #[] #[])
 | top (v:Value):RepV μ sh Fz Fy w .top v
 | fv (ro:Bool) (x:FV) (v:Value) (h:RepF (roF Fz Fy ro) w x v):RepV μ sh Fz Fy w (.fv ro x) v
 | ownx (s off len:Nat) (v:Value) (h:sh s=none):RepV μ sh Fz Fy w (.own s off len) v
 | own (s off len:Nat) (a:Option Addr) (cap sz n:Nat) (hs:sh s=some (sz,n)) (hn:off+len<=n) (hc:len<=cap)
   (hm:cap=0\/∃ b base,μ s=some (b,base)/\a=some ⟨b,base+off*sz,none⟩/\Room w b base ((off+cap)*sz)):RepV μ sh Fz Fy w (.own s off len) (.slice a len cap)
 | ptrx (s off:Nat) (v:Value) (h:sh s=none):RepV μ sh Fz Fy w (.ptr s off) v
 | ptr (s off b base:Nat) (hm:μ s=some (b,base)):RepV μ sh Fz Fy w (.ptr s off) (.pointer (some ⟨b,base+off,none⟩))
 | pelx (s i j:Nat) (v:Value) (h:sh s=none):RepV μ sh Fz Fy w (.pel s i j) v
 | pel (s i j sz n b base:Nat) (hs:sh s=some (sz,n)) (hi:i < n) (hm:μ s=some (b,base)):RepV μ sh Fz Fy w (.pel s i j) (.pointer (some ⟨b,base+(i*sz+j),none⟩))
 | agg (cells:List V) (vs:Array Value) (hs:vs.size=cells.length) (hr:∀ (j:Nat) (y:V),cells[j]? = some y->RepV μ sh Fz Fy w y (vs.getD j undef)):RepV μ sh Fz Fy w (.agg cells) (.agg vs)
 | fn (f:Fn) (first captured:List V) (vf vc:Array Value) (hs:vf.size=first.length) (hs':vc.size=captured.length)
   (hr:∀ (j:Nat) (y:V),first[j]? = some y->RepV μ sh Fz Fy w y (vf.getD j undef)) (hr':∀ (j:Nat) (y:V),captured[j]? = some y->RepV μ sh Fz Fy w y (vc.getD j undef)):RepV μ sh Fz Fy w (.fn f first captured) (.func f vf vc)
 | mapx (s:Nat) (v:Value) (h:sh s=none):RepV μ sh Fz Fy w (.map s) v
 | map (s b base:Nat) (hm:μ s=some (b,base)):RepV μ sh Fz Fy w (.map s) (.map (some b))
 | tup (cells:List V) (vs:Array Value) (hs:vs.size=cells.length) (hr:∀ (j:Nat) (y:V),cells[j]? = some y->RepV μ sh Fz Fy w y (vs.getD j undef)):RepV μ sh Fz Fy w (.tup cells) (.tuple vs)
def ment:Nat->Nat->V->Bool
 | 0,_,_=>true
 | n+1,s,v=>match v with
  | .yv=>false
  | .top=>false
  | .fv _ _=>false
  | .own t _ _=>t==s
  | .ptr t _=>t==s
  | .pel t _ _=>t==s
  | .map t=>t==s
  | .agg cells=>cells.any (ment n s)
  | .tup cells=>cells.any (ment n s)
  | .fn _ first captured=>first.any (ment n s)||captured.any (ment n s)
def Keeps (w w':World):Prop:=∀ (b:Nat) (c:Array Value) (e:TypeId) (fr:Nat×Nat),w.heap[b]? = some (.cells c e fr)->∃ c':Array Value,w'.heap[b]? = some (.cells c' e fr)/\c'.size=c.size
theorem Keeps.refl (w:World):Keeps w w:=fun _ c _ _ h=>⟨c,h,rfl⟩
theorem Keeps.trans {a b c:World} (h:Keeps a b) (h':Keeps b c):Keeps a c:=fun r x e fr hx=>by
 obtain ⟨y,hy,hs⟩:=h r x e fr hx
 obtain ⟨z,hz,hs'⟩:=h' r y e fr hy
 exact ⟨z,hz,hs'.trans hs⟩
structure Below (B:Nat) (w w':World):Prop where
 os:w'.os=w.os
 tape:w'.tape=w.tape
 output:w'.output=w.output
 size:w.heap.size<=w'.heap.size
 block:∀ k,k < B->w'.heap[k]? = w.heap[k]?
 drawn:w.drawn<=w'.drawn
theorem Below.kit {B:Nat} {w w':World} (h:Below B w w'):Go.RowKit.Below B w w':=⟨h.os,h.tape,h.output,h.size,h.block⟩
theorem Below.refl (B:Nat) (w:World):Below B w w:=⟨rfl,rfl,rfl,Nat.le_refl _,fun _ _=>rfl,Nat.le_refl _⟩
theorem Below.trans {B:Nat} {a b c:World} (h:Below B a b) (k:Below B b c):Below B a c :=
 ⟨k.os.trans h.os,k.tape.trans h.tape,k.output.trans h.output,Nat.le_trans h.size k.size,fun i hi=>(k.block i hi).trans (h.block i hi),Nat.le_trans h.drawn k.drawn⟩
theorem Below.mono {B B':Nat} {w w':World} (h:Below B w w') (hB:B'<=B):Below B' w w':=⟨h.os,h.tape,h.output,h.size,fun k hk=>h.block k (Nat.lt_of_lt_of_le hk hB),h.drawn⟩
theorem Below.drew {B:Nat} {a w:World} (h:Below B a w):Below B a w.drew:=⟨h.os,h.tape,h.output,h.size,h.block,Nat.le_trans h.drawn (Nat.le_succ _)⟩
theorem Below.alloc {B:Nat} {a w:World} (h:Below B a w) (hB:B<=w.heap.size) (o:Obj):Below B a (w.alloc o) :=
 h.trans ⟨rfl,rfl,rfl,by simp,fun k hk=>Go.RowKit.Below.heap_alloc _ _ _ (by omega),Nat.le_refl _⟩
theorem Keeps.of_below {w w':World} (h:Below w.heap.size w w'):Keeps w w':=fun r x e fr hx=>by
 have hr:r < w.heap.size:=by
  rcases Nat.lt_or_ge r w.heap.size with h | h
  ·exact h
  ·simp [Array.getElem?_eq_none h] at hx
 exact ⟨x,(h.block r hr).trans hx,rfl⟩
theorem Room.keeps {w w':World} {b o n:Nat} (h:Room w b o n) (hk:Keeps w w'):Room w' b o n:=by
 obtain ⟨c,e,hc,hn⟩:=h
 obtain ⟨c',hc',hs⟩:=hk b c e _ hc
 exact ⟨c',e,hc',by omega⟩
theorem RepV.mono {μ sh μ' sh':Nat->Option (Nat×Nat)} {Fz Fy Fz' Fy':Nat->Prop} {w w':World} (hz:∀ b,Fz b->Fz' b) (hy:∀ b,Fy b->Fy' b)
  (hwz:∀ b,Fz b->w'.heap[b]? = w.heap[b]?) (hwy:∀ b,Fy b->w'.heap[b]? = w.heap[b]?) (hk:Keeps w w') (D:Nat->Prop)
  (hs:∀ s,¬ D s->sh' s=none\/(sh' s=sh s/\μ' s=μ s)) (hY:∀ l,μ YN=some (l,0)->μ' YN=some (l,0)) {x:V} {v:Value} (h:RepV μ sh Fz Fy w x v) :
  (∀ s,D s->∃ n,ment n s x=false)->RepV μ' sh' Fz' Fy' w' x v:=by
 induction h with
 | yv l hm=>exact fun _=>.yv l (hY l hm)
 | top v=>exact fun _=>.top v
 | fv ro x v h =>
  intro _
  refine .fv ro x v (h.mono ?_ ?_)
  ·cases ro<;>simpa [roF]
  ·cases ro<;>simpa [roF]
 | ownx s off len v h =>
  intro hd
  have hD:¬ D s:=fun hD=>by obtain ⟨n,hn⟩:=hd s hD; cases n<;>simp [ment] at hn
  rcases hs s hD with h' | ⟨h',_⟩
  ·exact .ownx s off len v h'
  ·exact .ownx s off len v (h'.trans h)
 | own s off len a cap sz n hsh hn hc hm =>
  intro hd
  have hD:¬ D s:=fun hD=>by obtain ⟨n,hn⟩:=hd s hD; cases n<;>simp [ment] at hn
  rcases hs s hD with h' | ⟨h',hμ⟩
  ·exact .ownx s off len _ h'
  ·refine .own s off len a cap sz n (h'.trans hsh) hn hc (hm.imp id ?_)
   rintro ⟨b,base,hb,ha,hr⟩
   exact ⟨b,base,hμ.trans hb,ha,hr.keeps hk⟩
 | ptrx s off v h =>
  intro hd
  have hD:¬ D s:=fun hD=>by obtain ⟨n,hn⟩:=hd s hD; cases n<;>simp [ment] at hn
  rcases hs s hD with h' | ⟨h',_⟩
  ·exact .ptrx s off v h'
  ·exact .ptrx s off v (h'.trans h)
 | ptr s off b base hm =>
  intro hd
  have hD:¬ D s:=fun hD=>by obtain ⟨n,hn⟩:=hd s hD; cases n<;>simp [ment] at hn
  rcases hs s hD with h' | ⟨h',hμ⟩
  ·exact .ptrx s off _ h'
  ·exact .ptr s off b base (hμ.trans hm)
 | pelx s i j v h =>
  intro hd
  have hD:¬ D s:=fun hD=>by obtain ⟨n,hn⟩:=hd s hD; cases n<;>simp [ment] at hn
  rcases hs s hD with h' | ⟨h',_⟩
  ·exact .pelx s i j v h'
  ·exact .pelx s i j v (h'.trans h)
 | pel s i j sz n b base hsh hi hm =>
  intro hd
  have hD:¬ D s:=fun hD=>by obtain ⟨n,hn⟩:=hd s hD; cases n<;>simp [ment] at hn
  rcases hs s hD with h' | ⟨h',hμ⟩
  ·exact .pelx s i j _ h'
  ·exact .pel s i j sz n b base (h'.trans hsh) hi (hμ.trans hm)
 | mapx s v h =>
  intro hd
  have hD:¬ D s:=fun hD=>by obtain ⟨n,hn⟩:=hd s hD; cases n<;>simp [ment] at hn
  rcases hs s hD with h' | ⟨h',_⟩
  ·exact .mapx s v h'
  ·exact .mapx s v (h'.trans h)
 | map s b base hm =>
  intro hd
  have hD:¬ D s:=fun hD=>by obtain ⟨n,hn⟩:=hd s hD; cases n<;>simp [ment] at hn
  rcases hs s hD with h' | ⟨h',hμ⟩
  ·exact .mapx s _ h'
  ·exact .map s b base (hμ.trans hm)
 | agg cells vs hsz hr ih =>
  intro hd
  refine .agg cells vs hsz fun j y hj=>ih j y hj fun s hD=>?_
  obtain ⟨n,hn⟩:=hd s hD
  cases n with
  | zero=>simp [ment] at hn
  | succ n=>simp only [ment,List.any_eq_false] at hn; exact ⟨n,by simpa using hn y (List.mem_of_getElem? hj)⟩
 | tup cells vs hsz hr ih =>
  intro hd
  refine .tup cells vs hsz fun j y hj=>ih j y hj fun s hD=>?_
  obtain ⟨n,hn⟩:=hd s hD
  cases n with
  | zero=>simp [ment] at hn
  | succ n=>simp only [ment,List.any_eq_false] at hn; exact ⟨n,by simpa using hn y (List.mem_of_getElem? hj)⟩
 | fn f first captured vf vc hsz hsz' hr hr' ih ih' =>
  intro hd
  refine .fn f first captured vf vc hsz hsz' (fun j y hj=>ih j y hj fun s hD=>?_) (fun j y hj=>ih' j y hj fun s hD=>?_)
  ·obtain ⟨n,hn⟩:=hd s hD
   cases n with
   | zero=>simp [ment] at hn
   | succ n=>simp only [ment,Bool.or_eq_false_iff,List.any_eq_false] at hn; exact ⟨n,by simpa using hn.1 y (List.mem_of_getElem? hj)⟩
  ·obtain ⟨n,hn⟩:=hd s hD
   cases n with
   | zero=>simp [ment] at hn
   | succ n=>simp only [ment,Bool.or_eq_false_iff,List.any_eq_false] at hn; exact ⟨n,by simpa using hn.2 y (List.mem_of_getElem? hj)⟩
def partsF : List FV := [.str "boat".toUTF8, .fn (.func 141) [] [], .str "nets".toUTF8, .fn (.func 142) [] [], .str "crew".toUTF8, .fn (.func 143) [] []]
def glTab:Nat->Option (List FV):=fun g=>if g=0 then some partsF else none
abbrev Mu:=Nat->Option (Nat×Nat)
def shs (σ:St):Mu:=fun s=>(lk s σ.blk).map shp
inductive RepB (μ sh:Mu) (Fz Fy:Nat->Prop) (w:World) (s:Nat):Blk->Prop where
 | nil (sz:Nat):RepB μ sh Fz Fy w s (.arr sz [])
 | arr (sz:Nat) (xs:List FV) (b base:Nat) (c:Array Value) (e:TypeId) (hm:μ s=some (b,base)) (hh:w.heap[b]? = some (.cells c e (0,0))) (hc:base+xs.length*sz<=c.size)
   (hsz:∀ (i:Nat) (x:FV),xs[i]? = some x->cellsOK sz x=true)
   (hr:∀ (i:Nat) (x:FV) (j:Nat) (y:FV),xs[i]? = some x->(cellsOf x)[j]? = some y->RepF Fz w y (c.getD (base+(i*sz+j)) undef)):RepB μ sh Fz Fy w s (.arr sz xs)
 | box (cells:List V) (b:Nat) (c:Array Value) (e:TypeId) (hm:μ s=some (b,0)) (hh:w.heap[b]? = some (.cells c e (0,0))) (hc:c.size=cells.length)
   (hr:∀ (j:Nat) (y:V),cells[j]? = some y->RepV μ sh Fz Fy w y (c.getD j undef)):RepB μ sh Fz Fy w s (.box cells)
 | lst (sz n:Nat) (cells:List V) (b base:Nat) (c:Array Value) (e:TypeId) (hm:μ s=some (b,base)) (hh:w.heap[b]? = some (.cells c e (0,0))) (hl:cells.length=n*sz) (hc:base+n*sz<=c.size)
   (hr:∀ (j:Nat) (y:V),cells[j]? = some y->RepV μ sh Fz Fy w y (c.getD (base+j) undef)):RepB μ sh Fz Fy w s (.lst sz n cells)
 | mp (es:List (FV×V)) (b:Nat) (c:Array MapEntry) (hm:μ s=some (b,0)) (hh:w.heap[b]? = some (.map c es.length)) (hc:c.size=es.length)
   (hr:∀ (j:Nat) (y:FV×V),es[j]? = some y->∃ m,c[j]? = some m/\m.born=j/\RepF Fz w y.1 m.key/\RepV μ sh Fz Fy w y.2 m.val):RepB μ sh Fz Fy w s (.mp es)
 | mit (mv:V) (since last:Nat) (seen:List Nat) (b:Nat) (x:Option Nat) (hm:μ s=some (b,0)) (hh:w.heap[b]? = some (.mapIter x since seen.toArray last))
   (hr:RepV μ sh Fz Fy w mv (.map x)):RepB μ sh Fz Fy w s (.mit mv since last seen)
structure Grow (n1:Nat) (H M:Nat->Prop) (w w':World):Prop where
 os:w'.os=w.os
 tape:w'.tape=w.tape
 output:w'.output=w.output
 size:w.heap.size<=w'.heap.size
 keeps:Keeps w w'
 block:∀ b,(b < n1/\¬ H b)\/M b->w'.heap[b]? = w.heap[b]?
 drawn:w.drawn<=w'.drawn
structure Turn (M M':Nat->Prop) (w w':World):Prop where
 os:w'.os=w.os
 tape:w'.tape=w.tape
 output:w'.output=w.output
 size:w.heap.size<=w'.heap.size
 keeps:Keeps w w'
 block:∀ b,b < w.heap.size->¬ M b->w'.heap[b]? = w.heap[b]?
 sub:∀ b,M b->M' b
 new:∀ b,M' b->M b\/w.heap.size<=b
 lt:∀ b,M' b->b < w'.heap.size
 drawn:w.drawn<=w'.drawn
structure Yd where
 l:Nat
 n1:Nat
 H:Nat->Prop:=fun _=>False
 J:Nat->(Nat->Prop)->World->Prop
 stab:∀ n M w w',J n M w->Grow n1 H M w w'->J n M w'
structure Base where
 N:Nat
 B:Nat
 w0:World
 Fz0:Nat->Prop
 X:Nat->Prop:=fun _=>False
 Fy0:Nat->Prop:=fun _=>True
 M:Nat->Prop:=fun _=>False
 yl:Option Yd:=none
 rd:Option Nat:=none
 out:Nat->Value:=fun _=>undef
def Base.withM (C:Base) (M:Nat->Prop):Base:={ C with M:=M }
structure More (C:Base) (M':Nat->Prop):Prop where
 sub:∀ b,C.M b->M' b
 new:∀ b,M' b->C.M b\/C.B<=b
theorem More.refl (C:Base):More C C.M:=⟨fun _ x=>x,fun _ x=>.inl x⟩
theorem More.trans {C:Base} {M' M'':Nat->Prop} (h:More C M') (h':More (C.withM M') M''):More C M'' :=
 ⟨fun b x=>h'.sub b (h.sub b x),fun b x=>(h'.new b x).elim (fun y=>h.new b y) .inr⟩
def Base.get (C:Base) (a:Act) (k:Nat):Value:=if k < GH then a.tmps.getD k undef else C.out k
def Base.mine (C:Base) (b:Nat):Prop:=C.B<=b\/C.X b
structure BelowX (C:Base) (w':World):Prop where
 os:w'.os=C.w0.os
 tape:w'.tape=C.w0.tape
 output:w'.output=C.w0.output
 size:C.w0.heap.size<=w'.heap.size
 block:∀ k,k < C.B->¬ C.X k->w'.heap[k]? = C.w0.heap[k]?
 kept:∀ (k:Nat) (c:Array Value) (e:TypeId) (fr:Nat×Nat),C.X k->k < C.B->C.w0.heap[k]? = some (.cells c e fr)->∃ c':Array Value,w'.heap[k]? = some (.cells c' e fr)/\c'.size=c.size
 drawn:C.w0.drawn<=w'.drawn
theorem BelowX.trans {C:Base} {w w':World} (h:BelowX C w) (h':Below C.B w w'):BelowX C w' :=
 ⟨h'.os.trans h.os,h'.tape.trans h.tape,h'.output.trans h.output,Nat.le_trans h.size h'.size,fun k hk hx=>(h'.block k hk).trans (h.block k hk hx),fun k c e fr hx hk hc=>by
  obtain ⟨c',h1,h2⟩:=h.kept k c e fr hx hk hc
  exact ⟨c',(h'.block k hk).trans h1,h2⟩,Nat.le_trans h.drawn h'.drawn⟩
theorem BelowX.setRow {C:Base} {w:World} (h:BelowX C w) {g:Nat} (hg:C.mine g) {c0:Array Value} {e0:TypeId} {fr0:Nat×Nat} (hh:w.heap[g]? = some (.cells c0 e0 fr0)) (cs:Array Value) (hs:cs.size=c0.size):BelowX C (w.setRow g cs) :=
 ⟨h.os,h.tape,h.output,by have:=h.size; simpa [World.setRow] using this,fun k hk hx=>(setRow_other w g k cs (fun e=>hg.elim (fun h1=>by omega) fun h2=>hx (e▸h2))).trans (h.block k hk hx),fun k c e fr hx hk hc=>by
  obtain ⟨c',h1,h2⟩:=h.kept k c e fr hx hk hc
  by_cases ek:k=g
  ·subst ek
   rw [hh] at h1
   simp only [Option.some.injEq,Obj.cells.injEq] at h1
   obtain ⟨rfl,rfl,rfl⟩:=h1
   exact ⟨cs,setRow_heap w k c0 cs e0 fr0 hh,hs.trans h2⟩
  ·exact ⟨c',(setRow_other w g k cs ek).trans h1,h2⟩,h.drawn⟩
theorem BelowX.of_below {C:Base} {w:World} (h:Below C.B C.w0 w):BelowX C w:=⟨h.os,h.tape,h.output,h.size,fun k hk _=>h.block k hk,fun k c e fr _ hk hc=>⟨c,(h.block k hk).trans hc,rfl⟩,h.drawn⟩
theorem BelowX.below {C:Base} {w:World} (h:BelowX C w) (hx:∀ b,¬ C.X b):Below C.B C.w0 w:=⟨h.os,h.tape,h.output,h.size,fun k hk=>h.block k hk (hx k),h.drawn⟩
def GlOk (Fz:Nat->Prop) (w:World):Prop:=∀ g cells,glTab g=some cells->RepF Fz w (.pt cells 0) (.pointer (some ⟨g,0,none⟩))
theorem GlOk.mono {Fz Fz':Nat->Prop} {w w':World} (h:GlOk Fz w) (hf:∀ b,Fz b->Fz' b) (hw:∀ b,Fz b->w'.heap[b]? = w.heap[b]?):GlOk Fz' w':=fun g c e=>(h g c e).mono hf hw
structure Sim (C:Base) (σ:St) (a:Act) (w:World) (μ:Mu) (Fz Fy:Nat->Prop):Prop where
 defers:∀ d∈a.defers,∃ D,d.target = .collected D/\Fy D/\(C.rd=none->C.mine D)/\w.heap[D]? = some (.deferred (some []))
 dist:a.defers.Pairwise (fun d e=>d.target≠e.target)
 size:a.tmps.size=C.N
 small:C.N<=90000
 env:∀ k v,lk k σ.env=some v->True/\RepV μ (shs σ) Fz Fy w v (C.get a k)
 blk:∀ s b,lk s σ.blk=some b->RepB μ (shs σ) Fz Fy w s b
 live:∀ s,lk s σ.blk≠none->∀ b base,μ s=some (b,base)->C.mine b/\b < w.heap.size/\¬ Fy b
 inj:∀ s t,lk s σ.blk≠none->lk t σ.blk≠none->s≠t->∀ b base b' base',μ s=some (b,base)->μ t=some (b',base')->b≠b'
 zy:∀ b,Fz b->Fy b
 yl:∀ b,Fy b->b < w.heap.size
 z0:∀ b,Fz b->C.Fz0 b\/C.mine b
 y0:∀ b,Fy b->C.Fy0 b\/C.mine b
 below:BelowX C w
 big:C.B<=w.heap.size
 fm:∀ b,C.M b->b < w.heap.size/\¬ Fy b/\∀ s,lk s σ.blk≠none->∀ base,μ s≠some (b,base)
 yd:∀ y,C.yl=some y->μ YN=some (y.l,0)/\y.J σ.tr.length C.M w/\y.n1<=C.B/\(∀ b,b < y.n1->C.X b->C.M b\/y.H b)/\∀ b,C.M b->C.mine b
 mm:∀ b,C.M b->C.mine b
 lp:∀ l,C.rd=some l->l < C.B/\¬ C.X l/\∃ r,C.w0.heap[l]? = some (.loop r)
 gl:GlOk Fz w
theorem shs_none {σ:St} {s:Nat} (h:lk s σ.blk=none):shs σ s=none:=by simp [shs,h]
theorem RepB.mono {μ sh μ' sh':Mu} {Fz Fy Fz' Fy':Nat->Prop} {w w':World} {s:Nat} (hz:∀ b,Fz b->Fz' b) (hy:∀ b,Fy b->Fy' b)
  (hwz:∀ b,Fz b->w'.heap[b]? = w.heap[b]?) (hwy:∀ b,Fy b->w'.heap[b]? = w.heap[b]?) (hk:Keeps w w') (D:Nat->Prop)
  (hs:∀ s,¬ D s->sh' s=none\/(sh' s=sh s/\μ' s=μ s)) (hY:∀ l,μ YN=some (l,0)->μ' YN=some (l,0)) (hms:μ' s=μ s) (hb:∀ b base,μ s=some (b,base)->w'.heap[b]? = w.heap[b]?) {x:Blk}
  (hd:∀ t,D t->∀ y∈bcells x,∃ n,ment n t y=false) (h:RepB μ sh Fz Fy w s x):RepB μ' sh' Fz' Fy' w' s x:=by
 cases h with
 | nil sz=>exact .nil sz
 | arr sz xs b base c e hm hh hc hsz hr=>exact .arr sz xs b base c e (hms.trans hm) ((hb b base hm).trans hh) hc hsz fun i x j y h1 h2=>(hr i x j y h1 h2).mono hz hwz
 | box cells b c e hm hh hc hr =>
  exact .box cells b c e (hms.trans hm) ((hb b 0 hm).trans hh) hc fun j y hj=>(hr j y hj).mono hz hy hwz hwy hk D hs hY fun t ht=>hd t ht y (List.mem_of_getElem? hj)
 | lst sz n cells b base c e hm hh hl hc hr =>
  exact .lst sz n cells b base c e (hms.trans hm) ((hb b base hm).trans hh) hl hc fun j y hj=>(hr j y hj).mono hz hy hwz hwy hk D hs hY fun t ht=>hd t ht y (List.mem_of_getElem? hj)
 | mp es b c hm hh hc hr =>
  refine .mp es b c (hms.trans hm) ((hb b 0 hm).trans hh) hc fun j y hj=>?_
  obtain ⟨m,h1,h0,h2,h3⟩:=hr j y hj
  exact ⟨m,h1,h0,h2.mono hz hwz,h3.mono hz hy hwz hwy hk D hs hY fun t ht=>hd t ht y.2 (List.mem_map.2 ⟨y,List.mem_of_getElem? hj,rfl⟩)⟩
 | mit mv since last seen b x hm hh hr =>
  exact .mit mv since last seen b x (hms.trans hm) ((hb b 0 hm).trans hh) (hr.mono hz hy hwz hwy hk D hs hY fun t ht=>hd t ht mv (by simp [bcells]))
def St.drop (s:Nat) (σ:St):St:={ σ with blk:=rm s σ.blk }
theorem Sim.drop {C:Base} {σ:St} {a:Act} {w:World} {μ:Mu} {Fz Fy:Nat->Prop} (h:Sim C σ a w μ Fz Fy) (s:Nat):Sim C (σ.drop s) a w μ Fz Fy:=by
 have hs:∀ t,¬ (fun _:Nat=>False) t->shs (σ.drop s) t=none\/(shs (σ.drop s) t=shs σ t/\μ t=μ t):=fun t _=>by
  by_cases e:t=s
  ·left; simp [shs,St.drop,lk_rm,e]
  ·right; simp [shs,St.drop,lk_rm,e]
 have hp:∀ t,lk t (σ.drop s).blk≠none->lk t σ.blk≠none:=fun t ht=>by
  by_cases e:t=s<;>simp [St.drop,lk_rm,e] at ht ⊢; exact ht
 refine { h with env:=fun k v hk=>⟨(h.env k v hk).1,?_⟩,blk:=fun t b hb=>?_,live:=fun t ht=>h.live t (hp t ht),inj:=fun t u ht hu=>h.inj t u (hp t ht) (hp u hu),fm:=fun b hb=>⟨(h.fm b hb).1,(h.fm b hb).2.1,fun t ht=>(h.fm b hb).2.2 t (hp t ht)⟩ }
 ·exact (h.env k v hk).2.mono (fun _ x=>x) (fun _ x=>x) (fun _ _=>rfl) (fun _ _=>rfl) (Keeps.refl w) (fun _=>False) hs (fun _ x=>x) (fun _ x=>x.elim)
 ·have hb':lk t σ.blk=some b:=by
   by_cases e:t=s
   ·subst e; simp [St.drop,lk_rm] at hb
   ·simpa [St.drop,lk_rm,e] using hb
  exact (h.blk t b hb').mono (fun _ x=>x) (fun _ x=>x) (fun _ _=>rfl) (fun _ _=>rfl) (Keeps.refl w) (fun _=>False) hs (fun _ x=>x) rfl (fun _ _ _=>rfl) (fun _ x=>x.elim)
theorem Sim.freeze {C:Base} {σ:St} {a:Act} {w:World} {μ:Mu} {Fz Fy:Nat->Prop} (h:Sim C σ a w μ Fz Fy) (s:Nat) (hs:lk s σ.blk≠none) :
  Sim C (σ.drop s) a w μ (fun b=>Fz b\/∃ base,μ s=some (b,base)) (fun b=>Fy b\/∃ base,μ s=some (b,base)):=by
 have h':=h.drop s
 have hp:∀ t,lk t (σ.drop s).blk≠none->t≠s/\lk t σ.blk≠none:=fun t ht=>by
  by_cases e:t=s<;>simp [St.drop,lk_rm,e] at ht ⊢; exact ht
 refine { defers:=fun d hd=>let ⟨D,e1,e2,e3⟩:=h'.defers d hd; ⟨D,e1,.inl e2,e3⟩,size:=h'.size,env:=fun k v hk=>⟨(h'.env k v hk).1,?_⟩,blk:=fun t b hb=>?_,live:=fun t ht b base hm=>?_,inj:=h'.inj,zy:=fun b hb=>hb.imp (h.zy b) id,yl:=fun b hb=>?_,z0:=fun b hb=>?_,y0:=fun b hb=>?_,below:=h'.below,big:=h'.big,dist:=h'.dist,small:=h'.small,fm:=fun b hb=>⟨(h'.fm b hb).1,fun hy=>hy.elim (h'.fm b hb).2.1 fun ⟨base,e⟩=>(h.fm b hb).2.2 s hs base e,(h'.fm b hb).2.2⟩,yd:=h'.yd,lp:=h'.lp,mm:=h'.mm,gl:=h'.gl.mono (fun _ x=>.inl x) (fun _ _=>rfl) }
 ·exact (h'.env k v hk).2.mono (fun _ x=>.inl x) (fun _ x=>.inl x) (fun _ _=>rfl) (fun _ _=>rfl) (Keeps.refl w) (fun _=>False) (fun _ _=>.inr ⟨rfl,rfl⟩) (fun _ x=>x) (fun _ x=>x.elim)
 ·exact (h'.blk t b hb).mono (fun _ x=>.inl x) (fun _ x=>.inl x) (fun _ _=>rfl) (fun _ _=>rfl) (Keeps.refl w) (fun _=>False) (fun _ _=>.inr ⟨rfl,rfl⟩) (fun _ x=>x) rfl (fun _ _ _=>rfl) (fun _ x=>x.elim)
 ·obtain ⟨h1,h2⟩:=hp t ht
  obtain ⟨k1,k2,k3⟩:=h.live t h2 b base hm
  refine ⟨k1,k2,?_⟩
  rintro (k | ⟨base',hm'⟩)
  ·exact k3 k
  ·exact h.inj t s h2 hs h1 b base b base' hm hm' rfl
 ·rcases hb with hb | ⟨base,hm⟩
  ·exact h.yl b hb
  ·exact (h.live s hs b base hm).2.1
 ·rcases hb with hb | ⟨base,hm⟩
  ·exact h.z0 b hb
  ·exact .inr (h.live s hs b base hm).1
 ·rcases hb with hb | ⟨base,hm⟩
  ·exact h.y0 b hb
  ·exact .inr (h.live s hs b base hm).1
def killV (ns:List Nat) (v:V):V:=if ns.any (fun s=>ment 5 s v) then .top else v
def killB (ns:List Nat):Blk->Blk
 | .box cells=>.box (cells.map (killV ns))
 | .lst sz n cells=>.lst sz n (cells.map (killV ns))
 | .mp es=>.mp (es.map fun e=>(e.1,killV ns e.2))
 | .mit mv since last seen=>.mit (killV ns mv) since last seen
 | b=>b
theorem bcells_killB (ns:List Nat) (b:Blk):bcells (killB ns b)=(bcells b).map (killV ns):=by
 cases b<;>simp [killB,bcells]
def St.kill (ns:List Nat) (σ:St):St:={ σ with env:=σ.env.map fun e=>(e.1,killV ns e.2),blk:=σ.blk.map fun e=>(e.1,killB ns e.2) }
theorem shp_killB (ns:List Nat) (b:Blk):shp (killB ns b)=shp b:=by cases b<;>simp [killB,shp]
theorem ment_killV (ns:List Nat) (v:V) {s:Nat} (hs:s∈ns):∃ n,ment n s (killV ns v)=false:=by
 unfold killV
 split
 ·exact ⟨1,rfl⟩
 ·rename_i h
  simp only [List.any_eq_true,not_exists,not_and] at h
  exact ⟨5,by simpa using h s hs⟩
theorem RepV.killed {μ sh:Mu} {Fz Fy:Nat->Prop} {w:World} {x:V} {v:Value} (h:RepV μ sh Fz Fy w x v) (ns:List Nat):RepV μ sh Fz Fy w (killV ns x) v:=by
 unfold killV
 split
 ·exact .top _
 ·exact h
theorem shs_kill (ns:List Nat) (σ:St):shs (σ.kill ns)=shs σ:=by
 funext s
 simp only [shs,St.kill,lk_map,Option.map_map]
 congr 1
 funext b
 exact shp_killB ns b
theorem Sim.kill {C:Base} {σ:St} {a:Act} {w:World} {μ:Mu} {Fz Fy:Nat->Prop} (h:Sim C σ a w μ Fz Fy) (ns:List Nat):Sim C (σ.kill ns) a w μ Fz Fy:=by
 have hp:∀ t,lk t (σ.kill ns).blk≠none->lk t σ.blk≠none:=fun t ht=>by
  simp only [St.kill,lk_map] at ht
  intro e; simp [e] at ht
 refine { h with env:=fun k v hk=>?_,blk:=fun t b hb=>?_,live:=fun t ht=>h.live t (hp t ht),inj:=fun t u ht hu=>h.inj t u (hp t ht) (hp u hu),fm:=fun b hb=>⟨(h.fm b hb).1,(h.fm b hb).2.1,fun t ht=>(h.fm b hb).2.2 t (hp t ht)⟩ }
 ·simp only [St.kill,lk_map,Option.map_eq_some_iff] at hk
  obtain ⟨v',hv',rfl⟩:=hk
  refine ⟨(h.env k v' hv').1,?_⟩
  rw [shs_kill]
  unfold killV
  split
  ·exact .top _
  ·exact (h.env k v' hv').2
 ·simp only [St.kill,lk_map,Option.map_eq_some_iff] at hb
  obtain ⟨b',hb',rfl⟩:=hb
  rw [shs_kill]
  have:=h.blk t b' hb'
  cases this with
  | nil sz=>exact .nil sz
  | arr sz xs b base c e hm hh hc hsz hr=>exact .arr sz xs b base c e hm hh hc hsz hr
  | mp es b c hm hh hc hr =>
   refine .mp _ b c hm (by simpa using hh) (by simpa using hc) fun j y hj=>?_
   simp only [List.getElem?_map,Option.map_eq_some_iff] at hj
   obtain ⟨y',hy',rfl⟩:=hj
   obtain ⟨m,h1,h0,h2,h3⟩:=hr j y' hy'
   exact ⟨m,h1,h0,h2,h3.killed ns⟩
  | mit mv since last seen b x hm hh hr=>exact .mit _ since last seen b x hm hh (hr.killed ns)
  | lst sz n cells b base c e hm hh hl hc hr =>
   refine .lst sz n _ b base c e hm hh (by simpa using hl) hc fun j y hj=>?_
   simp only [List.getElem?_map,Option.map_eq_some_iff] at hj
   obtain ⟨y',hy',rfl⟩:=hj
   exact (hr j y' hy').killed ns
  | box cells b c e hm hh hc hr =>
   refine .box _ b c e hm hh (by simpa using hc) fun j y hj=>?_
   simp only [List.getElem?_map,Option.map_eq_some_iff] at hj
   obtain ⟨y',hy',rfl⟩:=hj
   exact (hr j y' hy').killed ns
def St.free (σ:St) (s:Nat):Prop:=(∀ k v,lk k σ.env=some v->∃ n,ment n s v=false)/\∀ t b,lk t σ.blk=some b->∀ y∈bcells b,∃ n,ment n s y=false
theorem St.free_kill (σ:St) (ns:List Nat) {s:Nat} (hs:s∈ns):(σ.kill ns).free s:=by
 refine ⟨fun k v hk=>?_,fun t cells ht y hy=>?_⟩
 ·simp only [St.kill,lk_map,Option.map_eq_some_iff] at hk
  obtain ⟨v',_,rfl⟩:=hk
  exact ment_killV ns v' hs
 ·simp only [St.kill,lk_map,Option.map_eq_some_iff] at ht
  obtain ⟨b',_,hb⟩:=ht
  subst hb
  rw [bcells_killB] at hy
  obtain ⟨y',_,rfl⟩:=List.mem_map.1 hy
  exact ment_killV ns y' hs
structure Stays (C:Base) (σ:St) (w w':World) (μ:Mu) (Fy:Nat->Prop):Prop where
 keeps:Keeps w w'
 fixed:∀ b,Fy b->w'.heap[b]? = w.heap[b]?
 own:∀ s,lk s σ.blk≠none->∀ b base,μ s=some (b,base)->w'.heap[b]? = w.heap[b]?
 below:BelowX C w'
 size:w.heap.size<=w'.heap.size
 rest:∀ b,C.M b->w'.heap[b]? = w.heap[b]?
 drawn:w.drawn<=w'.drawn
theorem Stays.of_below {C : Base} {σ : St} {a : Act} {w w' : World} {μ : Mu} {Fz Fy : Nat → Prop} (h : Sim C σ a w μ Fz Fy) (hb : Below w.heap.size w w') : Stays C σ w w' μ Fy :=
  { keeps := Keeps.of_below hb,fixed := fun b hy => hb.block b (h.yl b hy),own := fun s hs b base hm => hb.block b (h.live s hs b base hm).2.1,
    below := h.below.trans (hb.mono h.big),size := hb.size,rest := fun b hm => hb.block b (h.fm b hm).1,drawn := hb.drawn }
theorem Sim.yd_stays {C:Base} {σ:St} {a:Act} {w w':World} {μ:Mu} {Fz Fy:Nat->Prop} (h:Sim C σ a w μ Fz Fy) (hk:Keeps w w') (hb:BelowX C w') (hz:w.heap.size<=w'.heap.size) (hr:∀ b,C.M b->w'.heap[b]? = w.heap[b]?) (hdr:w.drawn<=w'.drawn) :
  ∀ y,C.yl=some y->μ YN=some (y.l,0)/\y.J σ.tr.length C.M w'/\y.n1<=C.B/\(∀ b,b < y.n1->C.X b->C.M b\/y.H b)/\∀ b,C.M b->C.mine b:=fun y hy=>by
 obtain ⟨h1,h2,h3,h4⟩:=h.yd y hy
 refine ⟨h1,y.stab _ _ _ _ h2 ⟨hb.os.trans h.below.os.symm,hb.tape.trans h.below.tape.symm,hb.output.trans h.below.output.symm,hz,hk,fun b hc=>?_,hdr⟩,h3,h4⟩
 rcases hc with hc | hc
 ·by_cases hx:C.X b
  ·exact hr b ((h4.1 b hc.1 hx).resolve_right hc.2)
  ·exact (hb.block b (by have:=hc.1; omega) hx).trans (h.below.block b (by have:=hc.1; omega) hx).symm
 ·exact hr b hc
theorem Sim.stays {C : Base} {σ : St} {a : Act} {w w' : World} {μ : Mu} {Fz Fy : Nat → Prop} (h : Sim C σ a w μ Fz Fy) (hw : Stays C σ w w' μ Fy) : Sim C σ a w' μ Fz Fy := by
  refine { defers := fun d hd => let ⟨D,e1,e2,e3,e4⟩ := h.defers d hd; ⟨D,e1,e2,e3,(hw.fixed D e2).trans e4⟩,dist := h.dist,small := h.small,size := h.size,env := fun k v hk => ⟨(h.env k v hk).1,?_⟩,blk := fun t b hb => ?_,live := fun t ht b base hm => ?_,inj := h.inj,zy := h.zy,yl := fun b hb => ?_,z0 := h.z0,y0 := h.y0,below := hw.below,big := Nat.le_trans h.big hw.size,lp := h.lp,mm := h.mm,gl := h.gl.mono (fun _ x => x) (fun b x => hw.fixed b (h.zy b x)),
           fm := fun b hb => ⟨Nat.lt_of_lt_of_le (h.fm b hb).1 hw.size,(h.fm b hb).2⟩,yd := h.yd_stays hw.keeps hw.below hw.size hw.rest hw.drawn }
  · exact (h.env k v hk).2.mono (fun _ x => x) (fun _ x => x) (fun b x => hw.fixed b (h.zy b x)) hw.fixed hw.keeps (fun _ => False) (fun _ _ => .inr ⟨rfl,rfl⟩) (fun _ x => x) (fun _ x => x.elim)
  · exact (h.blk t b hb).mono (fun _ x => x) (fun _ x => x) (fun b x => hw.fixed b (h.zy b x)) hw.fixed hw.keeps (fun _ => False) (fun _ _ => .inr ⟨rfl,rfl⟩) (fun _ x => x) rfl (hw.own t (by simp [hb])) (fun _ x => x.elim)
  · obtain ⟨h1,h2,h3⟩ := h.live t ht b base hm
    exact ⟨h1,Nat.lt_of_lt_of_le h2 hw.size,h3⟩
  · exact Nat.lt_of_lt_of_le (h.yl b hb) hw.size
theorem Sim.fix {C:Base} {σ:St} {a:Act} {w:World} {μ:Mu} {Fz Fy Fz' Fy':Nat->Prop} (h:Sim C σ a w μ Fz Fy) (hz:∀ b,Fz b->Fz' b) (hy:∀ b,Fy b->Fy' b) (hzy:∀ b,Fz' b->Fy' b)
  (hyl:∀ b,Fy' b->b < w.heap.size) (hz0:∀ b,Fz' b->C.Fz0 b\/C.mine b) (hy0:∀ b,Fy' b->C.Fy0 b\/C.mine b) (hl:∀ s,lk s σ.blk≠none->∀ b base,μ s=some (b,base)->¬ Fy' b) (hm':∀ b,C.M b->¬ Fy' b):Sim C σ a w μ Fz' Fy':=by
 refine { defers:=fun d hd=>let ⟨D,e1,e2,e3⟩:=h.defers d hd; ⟨D,e1,hy D e2,e3⟩,dist:=h.dist,small:=h.small,y0:=hy0,lp:=h.lp,mm:=h.mm,yd:=h.yd,fm:=fun b hb=>⟨(h.fm b hb).1,hm' b hb,(h.fm b hb).2.2⟩,size:=h.size,env:=fun k v hk=>⟨(h.env k v hk).1,?_⟩,blk:=fun t b hb=>?_,live:=fun t ht b base hm=>?_,inj:=h.inj,zy:=hzy,yl:=hyl,z0:=hz0,below:=h.below,big:=h.big,gl:=h.gl.mono hz (fun _ _=>rfl) }
 ·exact (h.env k v hk).2.mono hz hy (fun _ _=>rfl) (fun _ _=>rfl) (Keeps.refl w) (fun _=>False) (fun _ _=>.inr ⟨rfl,rfl⟩) (fun _ x=>x) (fun _ x=>x.elim)
 ·exact (h.blk t b hb).mono hz hy (fun _ _=>rfl) (fun _ _=>rfl) (Keeps.refl w) (fun _=>False) (fun _ _=>.inr ⟨rfl,rfl⟩) (fun _ x=>x) rfl (fun _ _ _=>rfl) (fun _ x=>x.elim)
 ·obtain ⟨h1,h2,_⟩:=h.live t ht b base hm
  exact ⟨h1,h2,hl t ht b base hm⟩
theorem ne_YN {N d:Nat} (h:N<=90000) (hd:d < N):d≠YN:=by unfold YN; omega
def setMu (μ:Mu) (s:Nat) (m:Option (Nat×Nat)):Mu:=fun t=>if t=s then m else μ t
theorem Sim.name {C:Base} {σ:St} {a:Act} {w:World} {μ:Mu} {Fz Fy:Nat->Prop} (h:Sim C σ a w μ Fz Fy) (s:Nat) (hsY:s≠YN) (hf:σ.free s) (m:Option (Nat×Nat)) (b:Blk)
  (hm:∀ r base,m=some (r,base)->C.mine r/\r < w.heap.size/\(¬ Fy r/\¬ C.M r)/\∀ t,t≠s->lk t σ.blk≠none->∀ r' base',μ t=some (r',base')->r'≠r)
  (hb:RepB (setMu μ s m) (shs { σ with blk:=put s b σ.blk }) Fz Fy w s b):Sim C { σ with blk:=put s b σ.blk } a w (setMu μ s m) Fz Fy:=by
 have hs:∀ t,¬ (fun t:Nat=>t=s) t->shs { σ with blk:=put s b σ.blk } t=none\/(shs { σ with blk:=put s b σ.blk } t=shs σ t/\setMu μ s m t=μ t):=fun t ht=>by
  right; simp [shs,lk_put,setMu,ht]
 have hyd:∀ y,C.yl=some y->setMu μ s m YN=some (y.l,0)/\y.J σ.tr.length C.M w/\y.n1<=C.B/\(∀ b,b < y.n1->C.X b->C.M b\/y.H b)/\∀ b,C.M b->C.mine b:=fun y hy=>⟨by simp only [setMu,if_neg (Ne.symm hsY)]; exact (h.yd y hy).1,(h.yd y hy).2⟩
 have hfm:∀ r,C.M r->r < w.heap.size/\¬ Fy r/\∀ t,lk t (put s b σ.blk)≠none->∀ base,setMu μ s m t≠some (r,base):=fun r hr=>⟨(h.fm r hr).1,(h.fm r hr).2.1,fun t ht base hb=>by
  by_cases e:t=s
  ·subst e; simp only [setMu,if_true] at hb; exact (hm r base hb).2.2.1.2 hr
  ·simp only [setMu,e,if_false] at hb; simp only [lk_put,e,if_false] at ht; exact (h.fm r hr).2.2 t ht base hb⟩
 refine { h with env:=fun k v hk=>⟨(h.env k v hk).1,?_⟩,blk:=fun t x hx=>?_,live:=fun t ht r base hr=>?_,inj:=fun t u ht hu htu r base r' base' hr hr'=>?_,yd:=hyd,fm:=hfm }
 ·refine (h.env k v hk).2.mono (fun _ x=>x) (fun _ x=>x) (fun _ _=>rfl) (fun _ _=>rfl) (Keeps.refl w) (fun t=>t=s) hs (fun l hl=>by simp only [setMu,if_neg (Ne.symm hsY)]; exact hl) (fun t ht=>?_)
  subst ht; exact hf.1 k v hk
 ·by_cases e:t=s
  ·subst e
   simp only [lk_put_same,Option.some.injEq] at hx
   subst hx; exact hb
  ·simp only [lk_put,e,if_false] at hx
   refine (h.blk t x hx).mono (fun _ x=>x) (fun _ x=>x) (fun _ _=>rfl) (fun _ _=>rfl) (Keeps.refl w) (fun t=>t=s) hs (fun l hl=>by simp only [setMu,if_neg (Ne.symm hsY)]; exact hl) (by simp [setMu,e]) (fun _ _ _=>rfl) (fun u hu y hy=>?_)
   subst hu; exact hf.2 t x hx y hy
 ·by_cases e:t=s
  ·subst e
   simp only [setMu,if_true] at hr
   obtain ⟨h1,h2,h3,_⟩:=hm r base hr
   exact ⟨h1,h2,h3.1⟩
  ·simp only [setMu,e,if_false] at hr
   simp only [lk_put,e,if_false] at ht
   exact h.live t ht r base hr
 ·by_cases e:t=s
  ·subst e
   have e':u≠t:=fun x=>htu x.symm
   simp only [setMu,if_true] at hr
   simp only [setMu,e',if_false] at hr'
   simp only [lk_put,e',if_false] at hu
   exact fun x=>(hm r base hr).2.2.2 u e' hu r' base' hr' x.symm
  ·simp only [setMu,e,if_false] at hr
   simp only [lk_put,e,if_false] at ht
   by_cases e':u=s
   ·subst e'
    simp only [setMu,if_true] at hr'
    exact (hm r' base' hr').2.2.2 t e ht r base hr
   ·simp only [setMu,e',if_false] at hr'
    simp only [lk_put,e',if_false] at hu
    exact h.inj t u ht hu htu r base r' base' hr hr'
theorem Sim.set {C:Base} {σ:St} {a:Act} {w:World} {μ:Mu} {Fz Fy:Nat->Prop} (h:Sim C σ a w μ Fz Fy) (d:Nat) (hd:d < C.N) (x:V) (v:Value) (hv:RepV μ (shs σ) Fz Fy w x v) :
  Sim C { σ with env:=put d x σ.env } (a.put (some d) v) w μ Fz Fy:=by
 have hsz:=h.size
 refine { h with defers:=by simpa [Act.put] using h.defers,size:=by simpa [Act.put] using h.size,env:=fun k u hk=>?_ }
 by_cases e:k=d
 ·subst e
  simp only [lk_put_same,Option.some.injEq] at hk
  subst hk
  refine ⟨trivial,?_⟩
  have:C.get (a.put (some k) v) k=v:=by
   have:=h.small
   simp [Base.get,Act.put,Array.getD,hsz,hd,show k < GH from by unfold GH; omega]
  rw [this]; exact hv
 ·simp only [lk_put,e,if_false] at hk
  refine ⟨(h.env k u hk).1,?_⟩
  have:C.get (a.put (some d) v) k=C.get a k:=by
   have hne:d≠k:=fun x=>e x.symm
   simp [Base.get,Act.put,Array.getElem?_setIfInBounds_ne hne]
  rw [this]; exact (h.env k u hk).2
theorem Sim.unset {C:Base} {σ:St} {a:Act} {w:World} {μ:Mu} {Fz Fy:Nat->Prop} (h:Sim C σ a w μ Fz Fy) (d:Option Nat) (v:Value) :
  Sim C { σ with env:=match d with | some d=>rm d σ.env | none=>σ.env } (a.put d v) w μ Fz Fy:=by
 cases d with
 | none=>exact h
 | some d =>
  refine { h with defers:=by simpa [Act.put] using h.defers,size:=by simpa [Act.put] using h.size,env:=fun k u hk=>?_ }
  simp only [lk_rm] at hk
  by_cases e:k=d
  ·simp [e] at hk
  ·simp only [e,if_false] at hk
   refine ⟨(h.env k u hk).1,?_⟩
   have:C.get (a.put (some d) v) k=C.get a k:=by
    have hne:d≠k:=fun x=>e x.symm
    simp [Base.get,Act.put,Array.getElem?_setIfInBounds_ne hne]
   rw [this]; exact (h.env k u hk).2
theorem Sim.keep {C:Base} {σ:St} {a:Act} {w:World} {μ:Mu} {Fz Fy:Nat->Prop} (h:Sim C σ a w μ Fz Fy) (p:Nat->Bool):Sim C { σ with env:=σ.env.filter fun e=>p e.1 } a w μ Fz Fy :=
 by
 refine { h with env:=fun k v hk=>?_ }
 simp only [lk_filter p] at hk
 split at hk
 ·exact h.env k v hk
 ·simp at hk
inductive TK where
 | other
 | ptr (e:Nat)
 | int (k:IntKind)
 | bool
 | string
 | slice (e:Nat)
 | array (n e:Nat)
 | struct (fs:List (Nat×Nat))
 | map (k e:Nat)
structure TI where
 size:Nat
 bytes:Nat
 zero:List FV
 kind:TK
inductive TV where
 | fv (x:FV)
 | us (sz:Nat) (xs:List FV)
inductive Sc where
 | int
 | bool
 | str
structure Pg where
 P:Program
 tbl:List (Nat×TI)
 ctx:FuncId->List (Bool×FV)->Option (List TV)
 ctxB:FuncId->List (Bool×FV)->List (Bool×FV)->Option (List TV):=fun _ _ _=>none
 eqs:List (Nat×List Sc):=[]
 keys:List Nat:=[]
 srt:FuncId->Nat->List FV->Option (List FV):=fun _ _ _=>none
 itr:FuncId->List (Bool×FV)->Option (List (List FV)):=fun _ _=>none
 its:FuncId->List (Bool×FV)->Nat->Bool:=fun _ _ _=>false
 yl:Option (Option (List (List FV))×Option Nat):=none
 inl:FuncId->Nat->St->List V->Option (St×List V):=fun _ _ _ _=>none
 fz:FuncId->Bool:=fun _=>false
 deep:List Nat:=[]
 pin:List Nat:=[]
 itrH:FuncId->List (Nat×Blk)->List V->Option (List (List FV)):=fun _ _ _=>none
 hd:FuncId->Bool:=fun _=>false
 rd:FuncId->List (Nat×Blk)->List V->Option FV:=fun _ _ _=>none
 wr:FuncId->List (Nat×Blk)->List V->Option (Nat×Blk×FV):=fun _ _ _=>none
def TK.agg:TK->Bool
 | .struct _=>true
 | .array _ _=>true
 | _=>false
def cval:FV->Value
 | .int k n=>.int k n
 | .bool b=>.bool b
 | .str s=>.string s
 | .sl _ _ _=>.slice none 0 0
 | .nilpt=>.pointer none
 | .nilfn=>.nilFunc
 | .nilif=>.nilIface
 | .nilmp=>.map none
 | _=>undef
def zgood:FV->Bool
 | .int _ _=>true
 | .bool _=>true
 | .str _=>true
 | .sl true 0 []=>true
 | .nilpt=>true
 | .nilfn=>true
 | .nilif=>true
 | .nilmp=>true
 | _=>false
theorem rep_cval {Fz:Nat->Prop} {w:World} {x:FV} (h:zgood x=true):RepF Fz w x (cval x):=by
 unfold zgood at h
 split at h
 ·exact .int _ _
 ·exact .bool _
 ·exact .str _
 ·exact .sl0 _ _ _ _ (fun _=>rfl)
 ·exact .nilpt
 ·exact .nilfn
 ·exact .nilif
 ·exact .nilmp
 ·simp at h
def KindIs (d:TypeDesc) (k:TK):Prop :=
 match k with
  | .other=>(∀ fs,d≠.struct fs)/\(∀ n e,d≠.array n e)
  | .ptr e=>d = .pointer e
  | .int k=>d = .int k
  | .bool=>d = .bool
  | .string=>d = .string
  | .slice e=>d = .slice e
  | .array n e=>d = .array n e
  | .struct fs=>∃ fields:Array Field,d = .struct fields/\fields.toList.map (fun f=>(f.offset,f.type))=fs
  | .map k e=>d = .map k e
structure TIok (P:Program) (t:Nat) (ti:TI):Prop where
 info:∃ i,P.info? t=some i/\i.size=ti.size/\i.bytes=ti.bytes/\∃ z,i.zero=some z/\z.cells.toList=ti.zero.map cval
 good:ti.zero.all zgood=true
 zsize:ti.zero.length=ti.size
 under:∃ d,P.underlying t=some d/\KindIs d ti.kind
def eqv:Sc->Value->Value->Option Bool
 | .int,.int k a,.int j b=>if k=j then some (a==b) else none
 | .bool,.bool a,.bool b=>some (a==b)
 | .str,.string a,.string b=>some (a==b)
 | _,_,_=>none
def eqvs:List Sc->List Value->List Value->Option Bool
 | [],[],[]=>some true
 | q :: qs,a :: r,b :: s=>match eqv q a b,eqvs qs r s with
  | some x,some y=>some (x&&y)
  | _,_=>none
 | _,_,_=>none
structure EqIs (P:Program) (t:Nat) (qs:List Sc):Prop where
 guard:P.eqGuardType P.depth t=false
 eq:∀ (xs ys:Array Value) (r:Bool) (w:World),eqvs qs xs.toList ys.toList=some r->(Op.equal t (.agg xs) (.agg ys)).run P w = .ok r w
structure TOk (G:Pg):Prop where
 tt:∀ t ti,lk t G.tbl=some ti->TIok G.P t ti
 ee:∀ t n,lk t G.eqs=some n->EqIs G.P t n
 kk:∀ t n,t∈G.keys->lk t G.eqs=some n->∀ (xs:Array Value) (em:Bool) (w:World),eqvs n xs.toList xs.toList=some true->(Instr.checkKey em 10000 t (.agg xs)).run G.P w = .ok () w
 zv:∀ t ti z,lk t G.tbl=some ti->ti.kind.agg=false->ti.zero=[z]->∀ w,(zeroValue t).run G.P w = .ok (cval z) w
instance (G:Pg):CoeFun (TOk G) fun _=>∀ t ti,lk t G.tbl=some ti->TIok G.P t ti:=⟨TOk.tt⟩
def constV:Value->Option V
 | .int k n=>some (.fv false (.int k n))
 | .bool b=>some (.fv false (.bool b))
 | .string s=>some (.fv false (.str s))
 | .slice none 0 0=>some (.fv false (.sl true 0 []))
 | .nilFunc=>some (.fv false .nilfn)
 | .pointer none=>some (.fv false .nilpt)
 | .nilIface=>some (.fv false .nilif)
 | .map none=>some (.fv false .nilmp)
 | _=>none
def opd (σ:St):Operand->Option V
 | .tmp t=>if hi t=true then none else lk t σ.env
 | .const v=>constV v
 | .func f=>some (.fv false (.fn (.func f) [] []))
 | .global g=>match glTab g with
  | some cells=>some (.fv false (.pt cells 0))
  | none=>none
section
variable {C:Base} {σ:St} {a:Act} {w:World} {μ:Mu} {Fz Fy:Nat->Prop}
theorem opd_sound (h:Sim C σ a w μ Fz Fy) {x:Operand} {v:V} (hx:opd σ x=some v):RepV μ (shs σ) Fz Fy w v (a.eval x):=by
 cases x with
 | tmp t =>
  simp only [opd] at hx
  split at hx
  ·simp at hx
  ·rename_i hg
   have:=(h.env t v hx).2
   rw [Base.get,if_pos (hi_lt hg)] at this
   exact this
 | global g =>
  simp only [opd] at hx
  split at hx
  ·rename_i cells hg
   simp only [Option.some.injEq] at hx
   subst hx
   exact .fv _ _ _ (h.gl g cells hg)
  ·cases hx
 | func f =>
  simp only [opd,Option.some.injEq] at hx
  subst hx
  exact .fv _ _ _ (.fn _ [] [] #[] #[] rfl rfl (by simp) (by simp))
 | const c =>
  simp only [opd] at hx
  unfold constV at hx
  split at hx<;>first
   | (simp only [Option.some.injEq] at hx; subst hx; exact .fv _ _ _ (by first | exact .int _ _ | exact .bool _ | exact .str _ | exact .nilfn | exact .nilpt | exact .nilif | exact .nilmp | exact .sl0 _ _ _ _ (fun _=>rfl)))
   | simp at hx
end
def nrm (ro:Bool) (x:FV):V:=.fv (ro&&!flat x) x
theorem rep_nrm {μ sh:Mu} {Fz Fy:Nat->Prop} {w:World} {ro:Bool} {x:FV} {v:Value} (h:RepF (roF Fz Fy ro) w x v):RepV μ sh Fz Fy w (nrm ro x) v:=by
 refine .fv _ _ _ ?_
 cases hf:flat x with
 | true=>exact h.of_flat hf
 | false=>simpa [hf] using h
def fcmp (op:BinOp) (x y:Int):Option Bool :=
 match op with
 | .eql=>some (x==y)
 | .neq=>some (x != y)
 | .lss=>some (decide (x < y))
 | .leq=>some (decide (x<=y))
 | .gtr=>some (decide (y < x))
 | .geq=>some (decide (y<=x))
 | _=>none
def fint (op:BinOp) (k:IntKind) (x y:Int):Option FV :=
 match op with
 | .add=>some (.int k (k.wrap (x+y)))
 | .sub=>some (.int k (k.wrap (x-y)))
 | .mul=>some (.int k (k.wrap (x*y)))
 | .quo=>if y=0 then none else some (.int k (k.wrap (x.tdiv y)))
 | .rem=>if y=0 then none else some (.int k (x.tmod y))
 | .and=>some (.int k (k.wrap ((BitVec.ofInt k.bits x &&& BitVec.ofInt k.bits y).toNat)))
 | .or=>some (.int k (k.wrap ((BitVec.ofInt k.bits x ||| BitVec.ofInt k.bits y).toNat)))
 | .xor=>some (.int k (k.wrap ((BitVec.ofInt k.bits x ^^^ BitVec.ofInt k.bits y).toNat)))
 | .andNot=>some (.int k (k.wrap ((BitVec.ofInt k.bits x &&& ~~~BitVec.ofInt k.bits y).toNat)))
 | .shl | .shr=>none
 | _=>(fcmp op x y).map .bool
def fshift (op:BinOp) (k:IntKind) (x y:Int):Option FV :=
 if y < 0 then none else
 match op with
 | .shl=>some (.int k (k.wrap (x*2 ^ (min y.toNat k.bits))))
 | .shr=>some (.int k (x.fdiv (2 ^ (min y.toNat k.bits))))
 | _=>none
def fscal:Sc->FV->FV->Option Bool
 | .int,.int k a,.int j b=>if k=j then some (a==b) else none
 | .bool,.bool a,.bool b=>some (a==b)
 | .str,.str a,.str b=>some (a==b)
 | _,_,_=>none
def fscals:List Sc->List FV->List FV->Option Bool
 | [],[],[]=>some true
 | q :: qs,a :: r,b :: s=>match fscal q a b,fscals qs r s with
  | some x,some y=>some (x&&y)
  | _,_=>none
 | _,_,_=>none
theorem eqvs_len:∀ {z:List Sc} {xs ys:List Value} {r:Bool},eqvs z xs ys=some r->xs.length=z.length/\ys.length=z.length
 | [],[],[],_,_=>⟨rfl,rfl⟩
 | q :: qs,a :: r,b :: s,_,h=>by
  simp only [eqvs] at h
  split at h
  ·rename_i h1 h2
   obtain ⟨e1,e2⟩:=eqvs_len h2
   exact ⟨by simp [e1],by simp [e2]⟩
  ·simp at h
 | [],_ :: _,_,_,h=>by simp [eqvs] at h
 | [],[],_ :: _,_,h=>by simp [eqvs] at h
 | _ :: _,[],_,_,h=>by simp [eqvs] at h
 | _ :: _,_ :: _,[],_,h=>by simp [eqvs] at h
theorem fscals_sound {Fz Fz':Nat->Prop} {w:World}:∀ {z:List Sc} {xs ys:List FV} {r:Bool} {us vs:List Value},fscals z xs ys=some r->us.length=xs.length->vs.length=ys.length ->
  (∀ j y,xs[j]? = some y->RepF Fz w y (us.getD j undef))->(∀ j y,ys[j]? = some y->RepF Fz' w y (vs.getD j undef))->eqvs z us vs=some r
 | [],[],[],r,[],[],h,_,_,_,_=>by simpa [fscals,eqvs] using h
 | z :: zs,x :: xs,y :: ys,r,u :: us,v :: vs,h,hu,hv,h1,h2=>by
  simp only [fscals] at h
  split at h
  ·rename_i p q hp hq
   have e1:eqv z u v=some p:=by
    have a1:=h1 0 x rfl
    have a2:=h2 0 y rfl
    simp only [List.getD_cons_zero] at a1 a2
    unfold fscal at hp
    split at hp
    ·cases a1; cases a2; exact hp
    ·cases a1; cases a2; exact hp
    ·cases a1; cases a2; exact hp
    ·simp at hp
   have e2:=fscals_sound (us:=us) (vs:=vs) hq (by simpa using hu) (by simpa using hv) (fun j y hj=>by simpa using h1 (j+1) y (by simpa using hj)) (fun j y hj=>by simpa using h2 (j+1) y (by simpa using hj))
   simp only [eqvs,e1,e2]; exact h
  ·simp at h
 | [],_ :: _,_,r,_,_,h,_,_,_,_=>by simp [fscals] at h
 | [],[],_ :: _,r,_,_,h,_,_,_,_=>by simp [fscals] at h
 | _ :: _,[],_,r,_,_,h,_,_,_,_=>by simp [fscals] at h
 | _ :: _,_ :: _,[],r,_,_,h,_,_,_,_=>by simp [fscals] at h
 | _,_ :: _,_,_,[],_,_,hu,_,_,_=>by simp at hu
 | _,[],_,_,_ :: _,_,_,hu,_,_,_=>by simp at hu
 | _,_,_ :: _,_,_,[],_,_,hv,_,_=>by simp at hv
 | _,_,[],_,_,_ :: _,_,_,hv,_,_=>by simp at hv
theorem bytes_loop (s:ByteArray):∀ (n i:Nat) (r:List UInt8),n+i=s.size->ByteArray.toList.loop s i r=r.reverse++s.data.toList.drop i
 | 0,i,r,h=>by
  rw [ByteArray.toList.loop,if_neg (by omega),List.drop_eq_nil_of_le (by simp only [Array.length_toList]; show s.size<=i; omega)]; simp
 | n+1,i,r,h=>by
  have hi:i < s.data.toList.length:=by simp only [Array.length_toList]; show i < s.size; omega
  rw [ByteArray.toList.loop,if_pos (by omega),bytes_loop s n (i+1) _ (by omega),List.drop_eq_getElem_cons hi]
  have:s.get! i=s.data.toList[i]:=by
   simp [ByteArray.get!,getElem!_def,Array.getElem?_eq_getElem (show i < s.data.size from by simpa using hi)]
  simp [this]
theorem bytes_list (s:ByteArray):s.toList=s.data.toList:=by
 have:=bytes_loop s s.size 0 [] rfl
 simpa [ByteArray.toList] using this
def sless (x y:ByteArray):Bool:=Op.bytesLess x.data.toList y.data.toList
theorem bytes_eq (x y:ByteArray):(x==y)=true↔x=y:=by
 cases x with | mk a =>
 cases y with | mk b =>
 show (a==b)=true↔_
 rw [beq_iff_eq]
 exact ⟨fun h=>by rw [h],fun h=>by injection h⟩
theorem bytes_beq (x y:ByteArray):(x.data.toList==y.data.toList)=(x==y):=by
 rw [Bool.eq_iff_iff,bytes_eq,beq_iff_eq]
 exact ⟨fun h=>by cases x; cases y; congr 1; exact Array.toList_inj.1 h,fun h=>by rw [h]⟩
def fstr (op:BinOp) (x y:ByteArray):Option Bool :=
 match op with
 | .eql=>some (x==y)
 | .neq=>some (!(x==y))
 | .lss=>some (sless x y)
 | .leq=>some (sless x y||x==y)
 | .gtr=>some (!(sless x y||x==y))
 | .geq=>some (!(sless x y))
 | _=>none
def fnil (b:Bool) (op:BinOp):Option Bool :=
 match op with
 | .eql=>some b
 | .neq=>some (!b)
 | _=>none
def fbin (G:Pg) (op:BinOp) (t:Nat):FV->FV->Option FV
 | .int k x,.int j y=>match op with
  | .shl=>fshift .shl k x y
  | .shr=>fshift .shr k x y
  | _=>if k=j then fint op k x y else none
 | .bool x,.bool y=>match lk t G.tbl,op with
  | some ⟨_,_,_,.bool⟩,.eql=>some (.bool (x==y))
  | some ⟨_,_,_,.bool⟩,.neq=>some (.bool (!(x==y)))
  | _,_=>none
 | .agg xs,.agg ys=>match lk t G.eqs with
  | some n=>match fscals n xs ys,op with
    | some r,.eql=>some (.bool r)
    | some r,.neq=>some (.bool (!r))
    | _,_=>none
  | none=>none
 | .str x,.str y=>(fstr op x y).map .bool
 | .pt _ _,.nilpt=>match lk t G.tbl with
  | some ⟨_,_,_,.ptr _⟩=>(fnil false op).map .bool
  | _=>none
 | .nilpt,.nilpt=>match lk t G.tbl with
  | some ⟨_,_,_,.ptr _⟩=>(fnil true op).map .bool
  | _=>none
 | _,_=>none
theorem fnil_sound {P:Program} {t e:Nat} (ht:P.underlying t=some (.pointer e)) {op:BinOp} {b:Bool} {z:FV} {o:Option Addr} (h:(fnil b op).map .bool=some z) (hb:b=o.isNone) (w:World) (xo yo:Operand) :
  ∃ r,(do eqGuard op t xo yo (.pointer o) (.pointer none); binOp op t (.pointer o) (.pointer none):Sem Value).run P w = .ok r w/\∀ (Fz:Nat->Prop) w',RepF Fz w' z r:=by
 have hg:∀ op,(eqGuard op t xo yo (.pointer o) (.pointer none)).run P w = .ok () w:=fun op=>by cases op<;>simp [eqGuard]
 have he:(Op.equal t (.pointer o) (.pointer none)).run P w = .ok o.isNone w:=by
  unfold Op.equal
  rw [show Op.maxDepth=9999+1 from rfl,Op.equalIn]
  cases o<;>simp [underlying,ht]
 simp only [Sem.run_bind,hg,Result.andThen_ok]
 unfold fnil at h
 split at h
 ·simp only [Option.map_some,Option.some.injEq] at h; subst h
  exact ⟨_,by simp only [binOp,Sem.run_bind,he,Result.andThen_ok]; rfl,fun _ _=>by rw [<-hb]; exact .bool _⟩
 ·simp only [Option.map_some,Option.some.injEq] at h; subst h
  exact ⟨_,by simp only [binOp,Sem.run_bind,he,Result.andThen_ok]; rfl,fun _ _=>by rw [<-hb]; exact .bool _⟩
 ·simp at h
theorem fstr_sound {P : Program} {op : BinOp} {t : Nat} {x y : ByteArray} {z : FV} (h : (fstr op x y).map .bool = some z) (w : World) (xo yo : Operand) :
    ∃ r,(do eqGuard op t xo yo (.string x) (.string y); binOp op t (.string x) (.string y) : Sem Value).run P w = .ok r w ∧ ∀ (Fz : Nat → Prop) w',RepF Fz w' z r := by
  have hg : ∀ op,(eqGuard op t xo yo (.string x) (.string y)).run P w = .ok () w := fun op => by cases op <;> simp [eqGuard]
  simp only [Sem.run_bind,hg,Result.andThen_ok]
  unfold fstr at h
  cases op <;> first
    | (simp at h; done)
    | (simp only [Option.map_some,Option.some.injEq] at h; subst h
       exact ⟨_,by simp only [binOp,Op.stringOp,bytes_list,bytes_beq]; rfl,fun _ _ => .bool _⟩)
theorem fint_sound {P : Program} {op : BinOp} {k : IntKind} {x y : Int} {z : FV} (h : fint op k x y = some z) (hs : op ≠ .shl) (hs' : op ≠ .shr) (t : Nat) (w : World) :
    ∃ v,(binOp op t (.int k x) (.int k y)).run P w = .ok v w ∧ ∀ (Fz : Nat → Prop) w',RepF Fz w' z v := by
  cases op
  case quo => simp only [fint] at h
              split at h
              · simp at h
              · simp only [Option.some.injEq] at h; subst h; exact ⟨_,by simp [binOp,Op.intDiv, *],fun _ _ => .int _ _⟩
  case rem => simp only [fint] at h
              split at h
              · simp at h
              · simp only [Option.some.injEq] at h; subst h; exact ⟨_,by simp [binOp,Op.intDiv, *],fun _ _ => .int _ _⟩
  case shl => exact (hs rfl).elim
  case shr => exact (hs' rfl).elim
  case andNot => simp only [fint,Option.some.injEq] at h; subst h; exact ⟨_,by simp only [binOp,ne_eq,not_true_eq_false,if_false]; rfl,fun _ _ => .int _ _⟩
  case and => simp only [fint,Option.some.injEq] at h; subst h; exact ⟨_,by simp only [binOp,ne_eq,not_true_eq_false,if_false]; rfl,fun _ _ => .int _ _⟩
  case or => simp only [fint,Option.some.injEq] at h; subst h; exact ⟨_,by simp only [binOp,ne_eq,not_true_eq_false,if_false]; rfl,fun _ _ => .int _ _⟩
  case xor => simp only [fint,Option.some.injEq] at h; subst h; exact ⟨_,by simp only [binOp,ne_eq,not_true_eq_false,if_false]; rfl,fun _ _ => .int _ _⟩
  case add => simp only [fint,Option.some.injEq] at h; subst h; exact ⟨_,by simp [binOp,Op.intArith],fun _ _ => .int _ _⟩
  case sub => simp only [fint,Option.some.injEq] at h; subst h; exact ⟨_,by simp [binOp,Op.intArith],fun _ _ => .int _ _⟩
  case mul => simp only [fint,Option.some.injEq] at h; subst h; exact ⟨_,by simp [binOp,Op.intArith],fun _ _ => .int _ _⟩
  all_goals
    simp only [fint,fcmp,Option.map_some,Option.some.injEq] at h
    subst h
    exact ⟨_,by simp only [binOp,ne_eq,not_true_eq_false,if_false]; rfl,fun _ _ => .bool _⟩
theorem run_eq_bool {P:Program} {t:Nat} (ht:P.underlying t=some .bool) (b c:Bool) (w:World):(Op.equal t (.bool b) (.bool c)).run P w = .ok (b==c) w:=by
 unfold Op.equal
 rw [show Op.maxDepth=9999+1 from rfl,Op.equalIn]
 simp [underlying,ht]
theorem fbin_sound {G:Pg} (hT:TOk G) {op:BinOp} {t:Nat} {x y z:FV} (h:fbin G op t x y=some z) {Fz Fz':Nat->Prop} {w:World} {u v:Value} (hx:RepF Fz w x u) (hy:RepF Fz' w y v) (xo yo:Operand) :
  ∃ r,(do eqGuard op t xo yo u v; binOp op t u v:Sem Value).run G.P w = .ok r w/\∀ (Fz:Nat->Prop) w',RepF Fz w' z r:=by
 unfold fbin at h
 split at h
 ·rename_i k i j l
  cases hx; cases hy
  have hg:∀ op,(eqGuard op t xo yo (.int k i) (.int j l)).run G.P w = .ok () w:=fun op=>by cases op<;>simp [eqGuard]
  simp only [Sem.run_bind,hg,Result.andThen_ok]
  split at h
  ·simp only [fshift] at h
   split at h
   ·simp at h
   ·simp only [Option.some.injEq] at h; subst h; exact ⟨_,by simp [binOp,Op.shift, *],fun _ _=>.int _ _⟩
  ·simp only [fshift] at h
   split at h
   ·simp at h
   ·simp only [Option.some.injEq] at h; subst h; exact ⟨_,by simp [binOp,Op.shift, *],fun _ _=>.int _ _⟩
  ·rename_i h1 h2
   split at h
   ·rename_i hkj; subst hkj
    exact fint_sound h (fun e=>h1 e) (fun e=>h2 e) t w
   ·simp at h
 ·rename_i b c
  cases hx; cases hy
  have hg:∀ op,(eqGuard op t xo yo (.bool b) (.bool c)).run G.P w = .ok () w:=fun op=>by cases op<;>simp [eqGuard]
  simp only [Sem.run_bind,hg,Result.andThen_ok]
  split at h
  ·rename_i s1 s2 s3 heq
   obtain ⟨d,hd,hk⟩:=(hT t _ heq).under
   simp only [KindIs] at hk; subst hk
   simp only [Option.some.injEq] at h; subst h
   exact ⟨_,by simp only [binOp,Sem.run_bind,run_eq_bool hd,Result.andThen_ok]; rfl,fun _ _=>.bool _⟩
  ·rename_i s1 s2 s3 heq
   obtain ⟨d,hd,hk⟩:=(hT t _ heq).under
   simp only [KindIs] at hk; subst hk
   simp only [Option.some.injEq] at h; subst h
   exact ⟨_,by simp only [binOp,Sem.run_bind,run_eq_bool hd,Result.andThen_ok]; rfl,fun _ _=>.bool _⟩
  ·simp at h
 ·rename_i xs ys
  cases hx with
  | agg _ us hus hru =>
  cases hy with
  | agg _ vs hvs hrv =>
  split at h
  ·rename_i n hn
   have hE:=hT.ee t n hn
   have hg:∀ op,(eqGuard op t xo yo (.agg us) (.agg vs)).run G.P w = .ok () w:=fun op=>by
    cases op<;>simp [eqGuard,hE.guard]
   simp only [Sem.run_bind,hg,Result.andThen_ok]
   split at h
   ·rename_i r hr
    simp only [Option.some.injEq] at h; subst h
    have:=hE.eq us vs r w (fscals_sound hr (by simpa using hus) (by simpa using hvs) (fun j y hj=>by simpa [List.getD_eq_getElem?_getD,Array.getD_eq_getD_getElem?] using hru j y hj) (fun j y hj=>by simpa [List.getD_eq_getElem?_getD,Array.getD_eq_getD_getElem?] using hrv j y hj))
    exact ⟨_,by simp only [binOp,Sem.run_bind,this,Result.andThen_ok]; rfl,fun _ _=>.bool _⟩
   ·rename_i r hr
    simp only [Option.some.injEq] at h; subst h
    have:=hE.eq us vs r w (fscals_sound hr (by simpa using hus) (by simpa using hvs) (fun j y hj=>by simpa [List.getD_eq_getElem?_getD,Array.getD_eq_getD_getElem?] using hru j y hj) (fun j y hj=>by simpa [List.getD_eq_getElem?_getD,Array.getD_eq_getD_getElem?] using hrv j y hj))
    exact ⟨_,by simp only [binOp,Sem.run_bind,this,Result.andThen_ok]; rfl,fun _ _=>.bool _⟩
   ·simp at h
  ·simp at h
 ·rename_i x y
  cases hx; cases hy
  exact fstr_sound h w xo yo
 ·rename_i cells off
  cases hy
  split at h
  ·rename_i s1 s2 s3 e heq
   obtain ⟨d,hd,hk⟩:=(hT t _ heq).under
   simp only [KindIs] at hk; subst hk
   cases hx with
   | pt _ _ b o us hb hc hr=>exact fnil_sound hd h rfl w xo yo
  ·simp at h
 ·cases hx; cases hy
  split at h
  ·rename_i s1 s2 s3 e heq
   obtain ⟨d,hd,hk⟩:=(hT t _ heq).under
   simp only [KindIs] at hk; subst hk
   exact fnil_sound hd h rfl w xo yo
  ·simp at h
 ·simp at h
theorem add_zero' (a:Addr) (h:a.spot=none) (k:Nat):a.add k=⟨a.block,a.off+k,none⟩:=by
 unfold Addr.add
 split
 ·rename_i e; subst e; cases a; simp_all
 ·cases a; simp_all
theorem run_loadCellsFrom {P:Program} (f:Nat->Value) (a:Addr) (w:World):∀ (n i:Nat) (acc:Array Value),(∀ j,j < n->w.cell? (a.add (i+j))=some (f (i+j))) ->
  (loadCellsFrom a i n acc).run P w = .ok (acc++((List.range n).map fun j=>f (i+j)).toArray) w:=by
 intro n
 induction n with
 | zero=>intro i acc _; simp [loadCellsFrom]
 | succ n ih =>
  intro i acc h
  have h0:=h 0 (by omega)
  simp only [Nat.add_zero] at h0
  simp only [loadCellsFrom,Sem.run_bind,run_load,h0,Result.andThen_ok]
  rw [ih (i+1) _ (fun j hj=>by have:=h (j+1) (by omega); rwa [show i+(j+1)=i+1+j from by omega] at this)]
  congr 1
  rw [List.range_succ_eq_map]
  simp only [List.map_cons,List.map_map,Nat.add_zero]
  apply Array.toList_inj.1
  simp only [Array.toList_append,Array.toList_push,List.append_assoc,List.cons_append,List.nil_append]
  congr 2
  apply List.map_congr_left
  intro j _
  simp only [Function.comp]
  congr 1; omega
theorem run_loadCells' {P:Program} (f:Nat->Value) (a:Addr) (w:World) (n:Nat) (h:∀ j,j < n->w.cell? (a.add j)=some (f j)) :
  (loadCells a n).run P w = .ok ((List.range n).map f).toArray w:=by
 have:=run_loadCellsFrom (P:=P) f a w n 0 #[] (by simpa using h)
 simpa [loadCells] using this
section types
variable {G:Pg} (hT:TOk G) {t:Nat} {ti:TI} (ht:lk t G.tbl=some ti) (w:World)
include hT ht
theorem run_sizeOf':(sizeOf t).run G.P w = .ok ti.size w:=by
 obtain ⟨i,hi,hs,_⟩:=(hT t ti ht).info
 simp [sizeOf,typeInfo,hi,hs]
theorem run_isAgg':(isAgg t).run G.P w = .ok ti.kind.agg w:=by
 obtain ⟨d,hd,hk⟩:=(hT t ti ht).under
 cases hkd:ti.kind with
 | other =>
  simp only [hkd,KindIs] at hk
  cases d<;>first
   | (simp [isAgg,underlying,hd,TK.agg]; done)
   | exact absurd rfl (hk.1 _)
   | exact absurd rfl (hk.2 _ _)
 | int=>simp only [hkd,KindIs] at hk; obtain ⟨k,rfl⟩:=hk; simp [isAgg,underlying,hd,TK.agg]
 | struct fs=>simp only [hkd,KindIs] at hk; obtain ⟨k,rfl,_⟩:=hk; simp [isAgg,underlying,hd,TK.agg]
 | _=>simp only [hkd,KindIs] at hk; subst hk; simp [isAgg,underlying,hd,TK.agg]
end types
def pres (σ:St) (s:Nat):Bool:=(lk s σ.blk).isSome
theorem pres_sh {σ:St} {s:Nat} (h:pres σ s=true):shs σ s≠none:=by
 simp only [pres,Option.isSome_iff_exists] at h
 obtain ⟨b,hb⟩:=h
 simp [shs,hb]
def look (σ:St) (p:V) (n:Nat):Option (List V) :=
 match p with
 | .fv ro (.pt cells off)=>if off+n<=cells.length then some (((cells.drop off).take n).map (nrm ro)) else none
 | .fv ro (.rb f pre post)=>if n=1 then some [.fv ro (.fn (.func f) [] (pre++.rb f pre post :: post))] else none
 | .ptr s off=>match lk s σ.blk with
  | some (.box cells)=>if off+n<=cells.length then some ((cells.drop off).take n) else none
  | _=>none
 | .pel s i j=>match lk s σ.blk with
  | some (.arr sz xs)=>match xs[i]? with
   | some x=>if j+n<=(cellsOf x).length then some ((((cellsOf x).drop j).take n).map (nrm false)) else none
   | none=>none
  | some (.lst sz m cells)=>if i < m/\j+n<=sz then some ((cells.drop (i*sz+j)).take n) else none
  | _=>none
 | _=>none
section
variable {C:Base} {σ:St} {a:Act} {w:World} {μ:Mu} {Fz Fy:Nat->Prop}
theorem drop_take_get {α:Type} {l:List α} {off n j:Nat} {y:α} (h:((l.drop off).take n)[j]? = some y):l[off+j]? = some y/\j < n:=by
 rw [List.getElem?_take] at h
 split at h
 ·rename_i hj; rw [List.getElem?_drop] at h; exact ⟨h,hj⟩
 ·simp at h
theorem cell_of_heap {b:Nat} {c:Array Value} {e:TypeId} {fr:Nat×Nat} {o:Nat} (hh:w.heap[b]? = some (.cells c e fr)) (ho:o < c.size):w.cell? ⟨b,o,none⟩=some (c.getD o undef):=by
 simp [World.cell?,hh,Array.getD,ho]
theorem look_sound (h:Sim C σ a w μ Fz Fy) {p:V} {n:Nat} {cs:List V} (hl:look σ p n=some cs) {v:Value} (hv:RepV μ (shs σ) Fz Fy w p v) :
  cs.length=n/\∃ ad:Addr,v = .pointer (some ad)/\ad.spot=none/\∀ (j:Nat) (y:V),cs[j]? = some y->∃ u,w.cell? ⟨ad.block,ad.off+j,none⟩=some u/\RepV μ (shs σ) Fz Fy w y u:=by
 unfold look at hl
 split at hl
 ·rename_i ro cells off
  split at hl
  ·rename_i hn
   simp only [Option.some.injEq] at hl; subst hl
   cases hv with
   | fv ro x v hv =>
   cases hv with
   | pt cells off b o us hb hc hr =>
   refine ⟨by simp; omega,_,rfl,rfl,fun j y hj=>?_⟩
   simp only [List.getElem?_map,Option.map_eq_some_iff] at hj
   obtain ⟨y',hy',rfl⟩:=hj
   obtain ⟨h1,h2⟩:=drop_take_get hy'
   exact ⟨us (off+j),by rw [show o+off+j=o+(off+j) from by omega]; exact hc _ _ h1,rep_nrm (hr _ _ h1)⟩
  ·simp at hl
 ·rename_i ro f pre post
  split at hl
  ·rename_i hn; subst hn
   simp only [Option.some.injEq] at hl; subst hl
   cases hv with
   | fv ro x v hv =>
   have hv0:=hv
   cases hv with
   | rb f pre post b o vp vq hb hs hs' hc hr hr' =>
   refine ⟨rfl,_,rfl,rfl,fun j y hj=>?_⟩
   cases j with
   | succ j=>simp at hj
   | zero =>
   simp only [List.getElem?_cons_zero,Option.some.injEq] at hj
   subst hj
   refine ⟨_,hc,.fv _ _ _ (.fn _ _ _ _ _ rfl ?_ (by simp) fun j y hj=>?_)⟩
   ·simp; omega
   ·rcases Nat.lt_trichotomy j pre.length with hlt | heq | hgt
    ·rw [List.getElem?_append_left hlt] at hj
     have:=hr j y hj
     have e:((vp++#[Value.pointer (some ⟨b,o,none⟩)]++vq).getD j undef)=vp.getD j undef:=by
      have:j < vp.size:=by omega
      simp [Array.getD_eq_getD_getElem?,Array.getElem?_append,this,show j < vp.size+1 from by omega,Array.getElem_push]
     rw [e]; exact this
    ·subst heq
     rw [List.getElem?_append_right (Nat.le_refl _)] at hj
     simp only [Nat.sub_self,List.getElem?_cons_zero,Option.some.injEq] at hj
     subst hj
     have e:((vp++#[Value.pointer (some ⟨b,o,none⟩)]++vq).getD pre.length undef) = .pointer (some ⟨b,o,none⟩):=by
      simp [Array.getD_eq_getD_getElem?,Array.getElem?_append,<-hs]
     rw [e]; exact hv0
    ·rw [List.getElem?_append_right (by omega)] at hj
     obtain ⟨k,hk⟩:∃ k,j-pre.length=k+1:=⟨j-pre.length-1,by omega⟩
     rw [hk,List.getElem?_cons_succ] at hj
     have:=hr' k y hj
     have e:((vp++#[Value.pointer (some ⟨b,o,none⟩)]++vq).getD j undef)=vq.getD k undef:=by
      have h1:¬ j < vp.size+1:=by omega
      simp [Array.getD_eq_getD_getElem?,Array.getElem?_append,h1,show j-(vp.size+1)=k from by omega]
     rw [e]; exact this
  ·simp at hl
 ·rename_i s off
  split at hl
  ·rename_i cells hb
   split at hl
   ·rename_i hn
    simp only [Option.some.injEq] at hl; subst hl
    have hB:=h.blk s _ hb
    cases hB with
    | box _ b c e hm hh hc hr =>
    cases hv with
    | ptrx s off v hx=>simp [shs,hb] at hx
    | ptr s off b' base hm' =>
    rw [hm] at hm'
    simp only [Option.some.injEq,Prod.mk.injEq] at hm'
    obtain ⟨rfl,rfl⟩:=hm'
    refine ⟨by simp; omega,_,rfl,rfl,fun j y hj=>?_⟩
    obtain ⟨h1,h2⟩:=drop_take_get hj
    exact ⟨_,by simpa using cell_of_heap hh (o:=off+j) (by omega),hr _ _ h1⟩
   ·simp at hl
  ·simp at hl
 ·rename_i s i j
  split at hl
  ·rename_i sz xs hb
   split at hl
   ·rename_i x hx
    split at hl
    ·rename_i hn
     simp only [Option.some.injEq] at hl; subst hl
     have hB:=h.blk s _ hb
     cases hB with
     | nil=>simp at hx
     | arr _ _ b base c e hm hh hc hsz hr =>
     cases hv with
     | pelx s i j v hx'=>simp [shs,hb] at hx'
     | pel s i j sz' n' b' base' hs' hi' hm' =>
     rw [hm] at hm'
     simp only [Option.some.injEq,Prod.mk.injEq] at hm'
     obtain ⟨rfl,rfl⟩:=hm'
     simp only [shs,hb,Option.map_some,shp,Option.some.injEq,Prod.mk.injEq] at hs'
     obtain ⟨rfl,rfl⟩:=hs'
     have hxl:=ok_len (hsz i x hx)
     refine ⟨by simp; omega,_,rfl,rfl,fun k y hk=>?_⟩
     simp only [List.getElem?_map,Option.map_eq_some_iff] at hk
     obtain ⟨y',hy',rfl⟩:=hk
     obtain ⟨h1,h2⟩:=drop_take_get hy'
     have hi:i < xs.length:=(List.getElem?_eq_some_iff.1 hx).1
     have hlt:(i+1)*sz<=xs.length*sz:=Nat.mul_le_mul_right _ hi
     rw [Nat.add_mul] at hlt
     refine ⟨_,by rw [show base+(i*sz+j)+k=base+(i*sz+(j+k)) from by omega]; exact cell_of_heap hh (by omega),rep_nrm (hr i x (j+k) y' hx h1)⟩
    ·simp at hl
   ·simp at hl
  ·rename_i sz m cells hb
   split at hl
   ·rename_i hn
    simp only [Option.some.injEq] at hl; subst hl
    have hB:=h.blk s _ hb
    cases hB with
    | lst _ _ _ b base c e hm hh hlen hc hr =>
    cases hv with
    | pelx s i j v hx'=>simp [shs,hb] at hx'
    | pel s i j sz' n' b' base' hs' hi' hm' =>
    rw [hm] at hm'
    simp only [Option.some.injEq,Prod.mk.injEq] at hm'
    obtain ⟨rfl,rfl⟩:=hm'
    have hlt:(i+1)*sz<=m*sz:=Nat.mul_le_mul_right _ hn.1
    rw [Nat.add_mul] at hlt
    simp only [shs,hb,Option.map_some,shp,Option.some.injEq,Prod.mk.injEq] at hs'
    obtain ⟨rfl,rfl⟩:=hs'
    refine ⟨by simp; omega,_,rfl,rfl,fun k y hk=>?_⟩
    obtain ⟨h1,h2⟩:=drop_take_get hk
    refine ⟨_,by rw [show base+(i*sz+j)+k=base+(i*sz+j+k) from by omega]; exact cell_of_heap hh (by omega),hr _ _ h1⟩
   ·simp at hl
  ·simp at hl
 ·simp at hl
def allF:List V->Option (Bool×List FV)
 | []=>some (false,[])
 | .fv ro x :: r=>match allF r with
  | some (q,xs)=>some (ro||q,x :: xs)
  | none=>none
 | _=>none
theorem allF_sound:∀ {cs:List V} {ro:Bool} {xs:List FV},allF cs=some (ro,xs)->xs.length=cs.length/\∀ (j:Nat) (y:FV),xs[j]? = some y->∃ q,cs[j]? = some (.fv q y)/\(q=true->ro=true)
 | [],ro,xs,h=>by simp [allF] at h; obtain ⟨rfl,rfl⟩:=h; simp
 | .fv q x :: r,ro,xs,h=>by
  simp only [allF] at h
  split at h
  ·rename_i q' ys hr
   simp only [Option.some.injEq,Prod.mk.injEq] at h
   obtain ⟨rfl,rfl⟩:=h
   obtain ⟨h1,h2⟩:=allF_sound hr
   refine ⟨by simp [h1],fun j y hj=>?_⟩
   cases j with
   | zero=>simp at hj; subst hj; exact ⟨q,rfl,fun e=>by simp [e]⟩
   | succ j =>
    simp only [List.getElem?_cons_succ] at hj ⊢
    obtain ⟨q2,h3,h4⟩:=h2 j y hj
    exact ⟨q2,h3,fun e=>by simp [h4 e]⟩
  ·simp at h
 | .top :: r,ro,xs,h=>by simp [allF] at h
 | .own _ _ _ :: r,ro,xs,h=>by simp [allF] at h
 | .ptr _ _ :: r,ro,xs,h=>by simp [allF] at h
 | .pel _ _ _ :: r,ro,xs,h=>by simp [allF] at h
 | .agg _ :: r,ro,xs,h=>by simp [allF] at h
 | .fn _ _ _ :: r,ro,xs,h=>by simp [allF] at h
 | .map _ :: r,ro,xs,h=>by simp [allF] at h
 | .tup _ :: r,ro,xs,h=>by simp [allF] at h
theorem roF_mono (hzy:∀ b,Fz b->Fy b) {q ro:Bool} (hq:q=true->ro=true) {x:FV} {v:Value} (h:RepF (roF Fz Fy q) w x v):RepF (roF Fz Fy ro) w x v:=by
 refine h.mono (fun b hb=>?_) (fun _ _=>rfl)
 cases q<;>cases ro<;>simp_all [roF]
theorem allF_rep (hzy:∀ b,Fz b->Fy b) {sh:Mu} {cs:List V} {ro:Bool} {xs:List FV} (ha:allF cs=some (ro,xs)) (f:Nat->Value) (hr:∀ (j:Nat) (y:V),cs[j]? = some y->RepV μ sh Fz Fy w y (f j)) :
  ∀ (j:Nat) (y:FV),xs[j]? = some y->RepF (roF Fz Fy ro) w y (f j):=by
 intro j y hj
 obtain ⟨q,h1,h2⟩:=(allF_sound ha).2 j y hj
 have:=hr j _ h1
 cases this with
 | fv _ _ _ hx=>exact roF_mono hzy h2 hx
def mkAgg (cs:List V):V :=
 match allF cs with
 | some (ro,xs)=>nrm ro (.agg xs)
 | none=>.agg cs
theorem mkAgg_sound (hzy:∀ b,Fz b->Fy b) {sh:Mu} {cs:List V} (vs:Array Value) (hs:vs.size=cs.length) (hr:∀ (j:Nat) (y:V),cs[j]? = some y->RepV μ sh Fz Fy w y (vs.getD j undef)) :
  RepV μ sh Fz Fy w (mkAgg cs) (.agg vs):=by
 unfold mkAgg
 split
 ·rename_i ro xs ha
  exact rep_nrm (.agg xs vs (by rw [hs,(allF_sound ha).1]) (allF_rep hzy ha _ hr))
 ·exact .agg cs vs hs hr
def loadA (G:Pg) (σ:St) (t:Nat) (p:V):Option V :=
 match lk t G.tbl with
 | some ti=>match look σ p ti.size with
  | some cs=>if ti.kind.agg then some (mkAgg cs) else match cs with
   | [c]=>some c
   | _=>none
  | none=>none
 | none=>none
theorem loadA_sound {G:Pg} (hT:TOk G) (h:Sim C σ a w μ Fz Fy) {t:Nat} {p r:V} (hl:loadA G σ t p=some r) {v:Value} (hv:RepV μ (shs σ) Fz Fy w p v) :
  ∃ u,(Instr.loadAt t v).run G.P w = .ok u w/\RepV μ (shs σ) Fz Fy w r u:=by
 unfold loadA at hl
 split at hl
 ·rename_i ti hti
  split at hl
  ·rename_i cs hcs
   obtain ⟨hlen,ad,rfl,hsp,hcell⟩:=look_sound h hcs hv
   simp only [Instr.loadAt,Instr.sureAddr,Sem.run_bind,Sem.run_pure,Result.andThen_ok,loadVar,run_isAgg' hT hti]
   split at hl
   ·rename_i hag
    simp only [Option.some.injEq] at hl; subst hl
    have hx:∀ j,j < ti.size->∃ u,w.cell? (ad.add j)=some u/\∀ y,cs[j]? = some y->RepV μ (shs σ) Fz Fy w y u:=fun j hj=>by
     have hj':j < cs.length:=by omega
     obtain ⟨u,h1,h2⟩:=hcell j cs[j] (List.getElem?_eq_getElem hj')
     refine ⟨u,by rw [add_zero' ad hsp]; exact h1,fun y hy=>?_⟩
     rw [List.getElem?_eq_getElem hj'] at hy
     simp only [Option.some.injEq] at hy; subst hy; exact h2
    obtain ⟨f,hf⟩:∃ f:Nat->Value,∀ j,j < ti.size->w.cell? (ad.add j)=some (f j)/\∀ y,cs[j]? = some y->RepV μ (shs σ) Fz Fy w y (f j) :=
     ⟨fun j=>if hj:j < ti.size then (hx j hj).choose else undef,fun j hj=>by simpa [hj] using (hx j hj).choose_spec⟩
    simp only [hag,if_true,Sem.run_bind,run_sizeOf' hT hti,Result.andThen_ok,run_loadCells' f ad w ti.size (fun j hj=>(hf j hj).1),Sem.run_pure]
    refine ⟨_,rfl,mkAgg_sound h.zy _ (by simp [hlen]) fun j y hj=>?_⟩
    have hj':j < ti.size:=by rw [<-hlen]; exact (List.getElem?_eq_some_iff.1 hj).1
    have e:(((List.range ti.size).map f).toArray.getD j undef)=f j:=by simp [Array.getD_eq_getD_getElem?,hj']
    rw [e]; exact (hf j hj').2 y hj
   ·rename_i hag
    split at hl
    ·rename_i c
     simp only [Option.some.injEq] at hl; subst hl
     obtain ⟨u,h1,h2⟩:=hcell 0 c rfl
     have h1':w.cell? ad=some u:=by cases ad; simp_all
     have hag':ti.kind.agg=false:=by simpa using hag
     exact ⟨u,by simp only [hag',Bool.false_eq_true,if_false,run_load,h1'],h2⟩
    ·simp at hl
  ·simp at hl
 ·simp at hl
end
def padd (σ:St) (p:V) (k:Nat):Option V :=
 match p with
 | .fv ro (.pt cells off)=>some (.fv ro (.pt cells (off+k)))
 | .ptr s off=>if pres σ s then some (.ptr s (off+k)) else none
 | .pel s i j=>if pres σ s then some (.pel s i (j+k)) else none
 | _=>none
def fieldA (G:Pg) (σ:St) (t:Nat) (p:V) (i:Nat):Option V :=
 match lk t G.tbl with
 | some ⟨_,_,_,.struct fs⟩=>match fs[i]? with
  | some (off,ft)=>match lk ft G.tbl with
   | some ti=>if ti.size=0 then none else padd σ p off
   | none=>none
  | none=>none
 | _=>none
def intN:V->Option Int
 | .fv _ (.int _ n)=>some n
 | _=>none
def indexA (G:Pg) (σ:St) (t:Nat) (p:V) (n:Int):Option V :=
 match lk t G.tbl with
 | some ⟨_,_,_,.slice e⟩=>match lk e G.tbl with
  | some ti=>match p with
   | .own s off len=>match lk s σ.blk with
    | some (.arr sz _)=>if 0<=n/\n < len/\sz=ti.size then some (.pel s (off+n.toNat) 0) else none
    | some (.lst sz _ _)=>if 0<=n/\n < len/\sz=ti.size then some (.pel s (off+n.toNat) 0) else none
    | _=>none
   | .fv ro (.sl _ sz xs)=>if 0<=n/\sz=ti.size then match xs[n.toNat]? with
     | some x=>some (.fv ro (.pt (cellsOf x) 0))
     | none=>none
    else none
   | _=>none
  | none=>none
 | some ⟨_,_,_,.array len e⟩=>match lk e G.tbl with
  | some ti=>if 0<=n/\n < len then padd σ p (n.toNat*ti.size) else none
  | none=>none
 | _=>none
def capOf (mx:Option Int) (cap:Nat):Nat :=
 match mx with
 | some m=>m.toNat
 | none=>cap
def clipOf (mx:Option Int) (clip:Bool) (hi len:Int):Bool :=
 match mx with
 | some m=>decide (m=hi)
 | none=>clip&&decide (hi=len)
def subsl (G:Pg) (σ:St) (t:Nat) (p:V) (lo:Int) (hi mx:Option Int):Option V :=
 match lk t G.tbl with
 | some ⟨_,_,_,.slice e⟩=>match lk e G.tbl with
  | some ti=>match p with
   | .own s off len=>match lk s σ.blk with
    | some (.arr sz _) =>
     if 0<=lo/\lo<=hi.getD len/\hi.getD len<=mx.getD len/\mx.getD len<=len/\sz=ti.size then some (.own s (off+lo.toNat) ((hi.getD len).toNat-lo.toNat)) else none
    | _=>none
   | .fv ro (.sl clip sz xs) =>
    if 0<=lo/\lo<=hi.getD xs.length/\hi.getD xs.length<=mx.getD xs.length/\mx.getD xs.length<=xs.length/\(sz=ti.size\/xs=[]) then
     some (.fv ro (.sl (clipOf mx clip (hi.getD xs.length) xs.length) sz ((xs.drop lo.toNat).take ((hi.getD xs.length).toNat-lo.toNat)))) else none
   | _=>none
  | none=>none
 | _=>none
section
variable {C:Base} {σ:St} {a:Act} {w:World} {μ:Mu} {Fz Fy:Nat->Prop} {G:Pg}
theorem padd_sound (h:Sim C σ a w μ Fz Fy) {p q:V} {k:Nat} (hp:padd σ p k=some q) {v:Value} (hv:RepV μ (shs σ) Fz Fy w p v) :
  ∃ ad:Addr,v = .pointer (some ad)/\RepV μ (shs σ) Fz Fy w q (.pointer (some (ad.add k))):=by
 unfold padd at hp
 split at hp
 ·rename_i ro cells off
  simp only [Option.some.injEq] at hp; subst hp
  cases hv with
  | fv _ _ _ hv =>
  cases hv with
  | pt cells off b o us hb hc hr =>
  refine ⟨_,rfl,?_⟩
  rw [add_zero' _ rfl]
  exact .fv _ _ _ (by rw [Nat.add_assoc]; exact .pt cells (off+k) b o us hb hc hr)
 ·rename_i s off
  split at hp
  ·rename_i hs
   simp only [Option.some.injEq] at hp; subst hp
   cases hv with
   | ptrx _ _ _ hx=>exact (pres_sh hs hx).elim
   | ptr _ _ b base hm =>
   refine ⟨_,rfl,?_⟩
   rw [add_zero' _ rfl,Nat.add_assoc]
   exact .ptr s (off+k) b base hm
  ·simp at hp
 ·rename_i s i j
  split at hp
  ·rename_i hs
   simp only [Option.some.injEq] at hp; subst hp
   cases hv with
   | pelx _ _ _ _ hx=>exact (pres_sh hs hx).elim
   | pel _ _ _ sz n b base h1 h2 hm =>
   refine ⟨_,rfl,?_⟩
   rw [add_zero' _ rfl,show base+(i*sz+j)+k=base+(i*sz+(j+k)) from by omega]
   exact .pel s i (j+k) sz n b base h1 h2 hm
  ·simp at hp
 ·simp at hp
theorem fieldA_sound (hT:TOk G) (h:Sim C σ a w μ Fz Fy) {t i:Nat} {p q:V} (hp:fieldA G σ t p i=some q) {v:Value} (hv:RepV μ (shs σ) Fz Fy w p v) :
  ∃ u,(Instr.fieldAt t v i).run G.P w = .ok u w/\RepV μ (shs σ) Fz Fy w q u:=by
 unfold fieldA at hp
 split at hp
 ·rename_i s1 s2 s3 fs heq
  split at hp
  ·rename_i off ft hf
   split at hp
   ·rename_i ti hti
    split at hp
    ·simp at hp
    ·rename_i hsz
     obtain ⟨d,hd,hk⟩:=(hT t _ heq).under
     obtain ⟨fields,rfl,hfs⟩:=hk
     obtain ⟨ad,rfl,hr⟩:=padd_sound h hp hv
     rw [<-hfs,List.getElem?_map,Option.map_eq_some_iff] at hf
     obtain ⟨f,hf,he⟩:=hf
     simp only [Prod.mk.injEq] at he
     obtain ⟨rfl,rfl⟩:=he
     have hf':fields[i]? = some f:=by simpa using hf
     refine ⟨_,?_,hr⟩
     simp [Instr.fieldAt,underlying,hd,hf',Instr.sureAddr,fieldPlace,run_sizeOf' hT hti,hsz]
   ·simp at hp
  ·simp at hp
 ·simp at hp
theorem intN_sound {ix:V} {n:Int} (hn:intN ix=some n) {v:Value} (hv:RepV μ (shs σ) Fz Fy w ix v):∃ k,v = .int k n:=by
 unfold intN at hn
 split at hn
 ·simp only [Option.some.injEq] at hn; subst hn
  cases hv with
  | fv _ _ _ hv=>cases hv; exact ⟨_,rfl⟩
 ·simp at hn
theorem indexA_sound (hT:TOk G) (h:Sim C σ a w μ Fz Fy) {t:Nat} {p q:V} {n:Int} (hp:indexA G σ t p n=some q) {v:Value} (hv:RepV μ (shs σ) Fz Fy w p v) (k:IntKind) :
  ∃ u,(Instr.indexAt t v (.int k n)).run G.P w = .ok u w/\RepV μ (shs σ) Fz Fy w q u:=by
 unfold indexA at hp
 split at hp
 ·rename_i s1 s2 s3 e heq
  obtain ⟨d,hd,hk⟩:=(hT t _ heq).under
  simp only [KindIs] at hk; subst hk
  split at hp
  ·rename_i ti hti
   split at hp
   ·rename_i s off len
    split at hp
    ·rename_i sz xs hb
     split at hp
     ·rename_i hc
      obtain ⟨h0,h1,rfl⟩:=hc
      simp only [Option.some.injEq] at hp; subst hp
      cases hv with
      | ownx _ _ _ _ hx=>simp [shs,hb] at hx
      | own _ _ _ ad cap sz' n' hs hn hc hm =>
      rcases hm with hm | ⟨b,base,hm,rfl,hroom⟩
      ·omega
      ·simp only [shs,hb,Option.map_some,shp,Option.some.injEq,Prod.mk.injEq] at hs
       obtain ⟨rfl,rfl⟩:=hs
       refine ⟨.pointer (some ((⟨b,base+off*ti.size,none⟩:Addr).add (n.toNat*ti.size))),?_,?_⟩
       ·simp [Instr.indexAt,underlying,hd,asIntOf,run_sizeOf' hT hti,h0,h1]
       ·rw [add_zero' _ rfl]
        simp only
        have e1:base+off*ti.size+n.toNat*ti.size=base+((off+n.toNat)*ti.size+0):=by rw [Nat.add_mul]; omega
        rw [e1]
        exact .pel s _ 0 ti.size xs.length b base (by simp [shs,hb,shp]) (by omega) hm
     ·simp at hp
    ·rename_i sz nn cells hb
     split at hp
     ·rename_i hc
      obtain ⟨h0,h1,rfl⟩:=hc
      simp only [Option.some.injEq] at hp; subst hp
      cases hv with
      | ownx _ _ _ _ hx=>simp [shs,hb] at hx
      | own _ _ _ ad cap sz' n' hs hn hc hm =>
      rcases hm with hm | ⟨b,base,hm,rfl,hroom⟩
      ·omega
      ·simp only [shs,hb,Option.map_some,shp,Option.some.injEq,Prod.mk.injEq] at hs
       obtain ⟨rfl,rfl⟩:=hs
       refine ⟨.pointer (some ((⟨b,base+off*ti.size,none⟩:Addr).add (n.toNat*ti.size))),?_,?_⟩
       ·simp [Instr.indexAt,underlying,hd,asIntOf,run_sizeOf' hT hti,h0,h1]
       ·rw [add_zero' _ rfl]
        simp only
        have e1:base+off*ti.size+n.toNat*ti.size=base+((off+n.toNat)*ti.size+0):=by rw [Nat.add_mul]; omega
        rw [e1]
        exact .pel s _ 0 ti.size nn b base (by simp [shs,hb,shp]) (by omega) hm
     ·simp at hp
    ·simp at hp
   ·rename_i ro clip sz xs
    split at hp
    ·rename_i hc
     obtain ⟨h0,rfl⟩:=hc
     split at hp
     ·rename_i x hx
      simp only [Option.some.injEq] at hp; subst hp
      have hlt:n.toNat < xs.length:=(List.getElem?_eq_some_iff.1 hx).1
      cases hv with
      | fv _ _ _ hv =>
      cases hv with
      | sl0=>simp at hx
      | sl _ _ _ b o len cap us hlen hcap hclip hb hsz hc hr =>
      have h1:n < len:=by omega
      refine ⟨.pointer (some ((⟨b,o,none⟩:Addr).add (n.toNat*ti.size))),?_,?_⟩
      ·simp [Instr.indexAt,underlying,hd,asIntOf,run_sizeOf' hT hti,h0,h1]
      ·rw [add_zero' _ rfl]
       simp only
       refine .fv _ _ _ ?_
       have:=RepF.pt (Fz:=roF Fz Fy ro) (w:=w) (cellsOf x) 0 b (o+n.toNat*ti.size) (us n.toNat) hb (fun j y hj=>by rw [Nat.add_assoc]; exact hc _ x j y hx hj) (fun j y hj=>hr _ x j y hx hj)
       exact this
     ·simp at hp
    ·simp at hp
   ·simp at hp
  ·simp at hp
 ·rename_i s1 s2 s3 len e heq
  obtain ⟨d,hd,hk⟩:=(hT t _ heq).under
  simp only [KindIs] at hk; subst hk
  split at hp
  ·rename_i ti hti
   split at hp
   ·rename_i hc
    obtain ⟨h0,h1⟩:=hc
    obtain ⟨ad,rfl,hr⟩:=padd_sound h hp hv
    exact ⟨_,by simp [Instr.indexAt,underlying,hd,asIntOf,Instr.sureAddr,run_sizeOf' hT hti,h0,h1],hr⟩
   ·simp at hp
  ·simp at hp
 ·simp at hp
def intOV:Option Int->Option Value->Prop
 | none,none=>True
 | some n,some v=>∃ k,v = .int k n
 | _,_=>False
theorem bounds_sound {P:Program} {len cap:Nat} (hlc:len<=cap) {lo:Int} {hi mx:Option Int} {vl vh vm:Option Value} (h0:0<=lo) (h1:lo<=hi.getD len) (h2:hi.getD len<=mx.getD len) (h3:mx.getD len<=len)
  (hl:vl=none/\lo=0\/∃ k,vl=some (.int k lo)) (hh:intOV hi vh) (hm:intOV mx vm) (hmh:mx=none\/hi≠none) (w:World) :
  (Instr.sliceBounds true len cap vl vh vm).run P w = .ok (lo.toNat,(hi.getD len).toNat,capOf mx cap) w:=by
 have e1:∀ (k:IntKind) (n:Int) (y:Nat) (c:BoundsCode),0<=n->n<=y->(Instr.sliceBound (.int k n) y c).run P w = .ok n.toNat w:=fun k n y c a b=>by simp [Instr.sliceBound,asIntOf,a,b]
 cases mx with
 | none =>
  cases vm with
  | some=>simp [intOV] at hm
  | none =>
  cases hi with
  | none =>
   cases vh with
   | some=>simp [intOV] at hh
   | none =>
   simp only [Option.getD_none,capOf] at h1 h2 h3 ⊢
   rcases hl with ⟨rfl,rfl⟩ | ⟨k,rfl⟩
   ·simp [Instr.sliceBounds]
   ·simp [Instr.sliceBounds,e1 _ _ _ _ h0 h1]
  | some hn =>
   cases vh with
   | none=>simp [intOV] at hh
   | some vh =>
   obtain ⟨k',rfl⟩:=hh
   simp only [Option.getD_some,Option.getD_none,capOf] at h1 h2 h3 ⊢
   have a1:(hn:Int)<=(cap:Nat):=by omega
   have a2:lo<=(hn.toNat:Nat):=by omega
   rcases hl with ⟨rfl,rfl⟩ | ⟨k,rfl⟩
   ·simp [Instr.sliceBounds,e1 _ _ _ _ (by omega) a1]
   ·simp [Instr.sliceBounds,e1 _ _ _ _ (by omega) a1,e1 _ _ _ _ h0 a2]
 | some m =>
  cases vm with
  | none=>simp [intOV] at hm
  | some vm =>
  obtain ⟨km,rfl⟩:=hm
  cases hi with
  | none=>simp at hmh
  | some hn =>
   cases vh with
   | none=>simp [intOV] at hh
   | some vh =>
   obtain ⟨k',rfl⟩:=hh
   simp only [Option.getD_some,capOf] at h1 h2 h3 ⊢
   have a0:m<=(cap:Nat):=by omega
   have a1:(hn:Int)<=(m.toNat:Nat):=by omega
   have a2:lo<=(hn.toNat:Nat):=by omega
   rcases hl with ⟨rfl,rfl⟩ | ⟨k,rfl⟩
   ·simp [Instr.sliceBounds,e1 _ _ _ _ (by omega) a0,e1 _ _ _ _ (by omega) a1]
   ·simp [Instr.sliceBounds,e1 _ _ _ _ (by omega) a0,e1 _ _ _ _ (by omega) a1,e1 _ _ _ _ h0 a2]
theorem subsl_sound (hT:TOk G) (h:Sim C σ a w μ Fz Fy) {t:Nat} {p q:V} {lo:Int} {hi mx:Option Int} (hp:subsl G σ t p lo hi mx=some q) {v:Value} (hv:RepV μ (shs σ) Fz Fy w p v)
  {vl vh vm:Option Value} (hl:vl=none/\lo=0\/∃ k,vl=some (.int k lo)) (hh:intOV hi vh) (hm:intOV mx vm) (hmh:mx=none\/hi≠none) :
  ∃ u,(Instr.sliceAt t v vl vh vm).run G.P w = .ok u w/\RepV μ (shs σ) Fz Fy w q u:=by
 unfold subsl at hp
 split at hp
 ·rename_i s1 s2 s3 e heq
  obtain ⟨d,hd,hk⟩:=(hT t _ heq).under
  simp only [KindIs] at hk; subst hk
  split at hp
  ·rename_i ti hti
   split at hp
   ·rename_i s off len
    split at hp
    ·rename_i sz xs hb
     split at hp
     ·rename_i hc
      obtain ⟨h0,h1,h2,h3,rfl⟩:=hc
      simp only [Option.some.injEq] at hp; subst hp
      cases hv with
      | ownx _ _ _ _ hx=>simp [shs,hb] at hx
      | own _ _ _ ad cap sz' n' hs hn hcap hmm =>
      simp only [shs,hb,Option.map_some,shp,Option.some.injEq,Prod.mk.injEq] at hs
      obtain ⟨rfl,rfl⟩:=hs
      have hrun:=bounds_sound (P:=G.P) hcap h0 h1 h2 h3 hl hh hm hmh w
      refine ⟨.slice (if (capOf mx cap)=lo.toNat then ad else ad.map (·.add (lo.toNat*ti.size))) ((hi.getD len).toNat-lo.toNat) ((capOf mx cap)-lo.toNat),?_,?_⟩
      ·simp only [Instr.sliceAt,underlying,Sem.run_bind,run_program,Result.andThen_ok,hd,Sem.run_pure,Instr.slice,hrun,run_sizeOf' hT hti]
      ·have hM:lo.toNat<=(capOf mx cap)/\(hi.getD len).toNat<=(capOf mx cap)/\(capOf mx cap)<=cap:=by
        cases mx with
        | none=>simp only [Option.getD_none,capOf] at h2 h3 ⊢; omega
        | some m=>simp only [Option.getD_some,capOf] at h2 h3 ⊢; omega
       generalize (capOf mx cap)=M at hM ⊢
       refine .own s _ _ _ _ ti.size xs.length (by simp [shs,hb,shp]) (by omega) (by omega) ?_
       by_cases hz:M=lo.toNat
       ·left; omega
       ·right
        rcases hmm with hmm | ⟨b,base,hmb,rfl,hroom⟩
        ·omega
        ·refine ⟨b,base,hmb,?_,?_⟩
         ·rw [if_neg hz]
          simp only [Option.map_some]
          rw [add_zero' _ rfl,Nat.add_mul,Nat.add_assoc]
         ·obtain ⟨c,e',hce,hcs⟩:=hroom
          refine ⟨c,e',hce,Nat.le_trans ?_ hcs⟩
          refine Nat.add_le_add_left (Nat.mul_le_mul_right _ ?_) _
          omega
     ·simp at hp
    ·simp at hp
   ·rename_i ro clip sz xs
    split at hp
    ·rename_i hc
     obtain ⟨h0,h1,h2,h3,hsz⟩:=hc
     simp only [Option.some.injEq] at hp; subst hp
     cases hv with
     | fv _ _ _ hv =>
     cases hv with
     | sl0 clip sz ad cap hcl =>
      have h0':lo=0/\hi.getD 0=0/\mx.getD 0=0:=by
       have e0:((([]:List FV).length:Nat):Int)=0:=rfl
       rw [e0] at h1 h2 h3
       refine ⟨?_,?_,?_⟩<;>omega
      have e0:(((0:Nat):Int))=0:=rfl
      have hb1:(0:Int)<=hi.getD ((0:Nat):Int):=by rw [e0]; omega
      have hb2:hi.getD ((0:Nat):Int)<=mx.getD ((0:Nat):Int):=by rw [e0]; omega
      have hb3:mx.getD ((0:Nat):Int)<=((0:Nat):Int):=by rw [e0]; omega
      obtain ⟨rfl,hh0,hm0⟩:=h0'
      have hrun:=bounds_sound (P:=G.P) (len:=0) (Nat.zero_le cap) (Int.le_refl 0) hb1 hb2 hb3 hl hh hm hmh w
      refine ⟨.slice (if (capOf mx cap)=0 then ad else ad.map (·.add (0*ti.size))) 0 (capOf mx cap),?_,?_⟩
      ·simp only [Instr.sliceAt,underlying,Sem.run_bind,run_program,Result.andThen_ok,hd,Sem.run_pure,Instr.slice,hrun,run_sizeOf' hT hti]
       have e:(((0:Nat):Int))=0:=rfl
       simp only [e,hh0,Int.toNat_zero,Nat.sub_zero]
      ·refine .fv _ _ _ ?_
       simp only [List.drop_nil,List.take_nil]
       refine .sl0 _ _ _ _ fun hcl'=>?_
       cases mx with
       | none=>simp only [Bool.and_eq_true,clipOf,capOf] at hcl' ⊢; rw [hcl hcl'.1]
       | some m=>simp only [Option.getD_some] at hm0; subst hm0; rfl
     | sl clip sz xs b o len cap us hlen hcap hclip hb hsz' hc hr =>
      subst hlen
      have hrun:=bounds_sound (P:=G.P) hcap h0 h1 h2 h3 hl hh hm hmh w
      have hne:sz=ti.size\/xs=[]:=hsz
      refine ⟨.slice (if (capOf mx cap)=lo.toNat then some ⟨b,o,none⟩ else (some (⟨b,o,none⟩:Addr)).map (·.add (lo.toNat*ti.size))) ((hi.getD xs.length).toNat-lo.toNat) ((capOf mx cap)-lo.toNat),?_,?_⟩
      ·simp only [Instr.sliceAt,underlying,Sem.run_bind,run_program,Result.andThen_ok,hd,Sem.run_pure,Instr.slice,hrun,run_sizeOf' hT hti]
      ·have hM:lo.toNat<=(capOf mx cap)/\(hi.getD xs.length).toNat<=(capOf mx cap)/\(capOf mx cap)<=cap:=by
        cases mx with
        | none=>simp only [Option.getD_none,capOf] at h2 h3 ⊢; omega
        | some m=>simp only [Option.getD_some,capOf] at h2 h3 ⊢; omega
       have hclp:(clipOf mx clip (hi.getD xs.length) xs.length)=true->(capOf mx cap)=(hi.getD xs.length).toNat:=by
        cases mx with
        | none=>simp only [Bool.and_eq_true,decide_eq_true_eq,clipOf,capOf]; rintro ⟨h5,h6⟩; have:=hclip h5; omega
        | some m=>simp only [decide_eq_true_eq,clipOf,capOf]; rintro rfl; rfl
       generalize (capOf mx cap)=M at hM hclp ⊢
       generalize clipOf mx clip (hi.getD xs.length) xs.length=clp at hclp ⊢
       refine .fv _ _ _ ?_
       have hhl:(hi.getD xs.length).toNat<=xs.length:=by omega
       by_cases hnil:(hi.getD xs.length).toNat-lo.toNat=0
       ·rw [hnil]; simp only [List.take_zero]
        exact .sl0 _ _ _ _ fun hcl'=>by have:=hclp hcl'; omega
       ·have hz:M≠lo.toNat:=by omega
        rw [if_neg hz]
        simp only [Option.map_some]
        rw [add_zero' _ rfl]
        have hne':sz=ti.size:=by
         rcases hne with h | h
         ·exact h
         ·have:xs.length=0:=by rw [h]; rfl
          omega
        subst hne'
        refine .sl _ _ _ b (o+lo.toNat*ti.size) _ _ (fun i j=>us (lo.toNat+i) j) ?_ (by omega) (fun hcl'=>by have:=hclp hcl'; omega) hb ?_ ?_ ?_
        ·simp; omega
        ·intro i x hx; exact hsz' _ x (drop_take_get hx).1
        ·intro i x j y hx hj
         have:=hc _ x j y (drop_take_get hx).1 hj
         rw [<-this]
         congr 2
         rw [Nat.add_mul]; omega
        ·intro i x j y hx hj; exact hr _ x j y (drop_take_get hx).1 hj
    ·simp at hp
   ·simp at hp
  ·simp at hp
 ·simp at hp
end
end Go.Proofs.YtejodhjhddnbeaaDoor.E
