/-
  The engine: a symbolic run of a body, proved sound once for any program. Conditions: none.
-/
import Derived.Test.YtejodhjhddnbeaaDoorZ04
import Derived.RangeFuncRecord
import Derived.RangeFuncNested
import Derived.RangeFuncLeaves
set_option linter.unusedVariables false
set_option linter.unusedSimpArgs false
namespace Go.Proofs.YtejodhjhddnbeaaDoor.E
open Go Go.RowKit
theorem hi_le {t:Nat} (h:hi t=true):GH<=t:=by
 unfold GH; simpa using h
theorem GH_eq:GH=100000000:=by unfold GH; rfl
theorem lk_up:∀ {l:List (Nat×V)} {k:Nat} {v:V},lk k (upEnv l)=some v->GH<=k/\lk (k-GH) l=some v
 | [],k,v,h=>by simp [upEnv,lk] at h
 | (j,u) :: r,k,v,h=>by
  rw [upEnv,<-GH_eq] at h
  simp only [lk] at h ⊢
  split at h
  ·rename_i e; subst e
   exact ⟨by omega,by rw [if_pos (by omega)]; exact h⟩
  ·rename_i e
   obtain ⟨h1,h2⟩:=lk_up h
   exact ⟨h1,by rw [if_neg (by omega)]; exact h2⟩
theorem lk_dn:∀ {l:List (Nat×V)} {k:Nat} {v:V},lk k (dnEnv l)=some v->lk (k+GH) l=some v
 | [],k,v,h=>by simp [dnEnv,lk] at h
 | (j,u) :: r,k,v,h=>by
  rw [dnEnv,<-GH_eq] at h
  simp only [lk]
  split at h
  ·rename_i hj
   have hj:=hi_le hj
   simp only [lk] at h
   split at h
   ·rename_i e; subst e; rw [if_pos (by omega)]; exact h
   ·rename_i e; rw [if_neg (by omega)]; exact lk_dn h
  ·rename_i hj
   have hj:=hi_lt hj
   rw [if_neg (by omega)]; exact lk_dn h
theorem lk_lo:∀ {l:List (Nat×V)} {k:Nat} {v:V},lk k (loEnv l)=some v->k < GH/\lk k l=some v
 | [],k,v,h=>by simp [loEnv,lk] at h
 | (j,u) :: r,k,v,h=>by
  simp only [loEnv] at h
  simp only [lk]
  split at h
  ·rename_i hj
   have hj:=hi_le hj
   obtain ⟨h1,h2⟩:=lk_lo h
   exact ⟨h1,by rw [if_neg (by omega)]; exact h2⟩
  ·rename_i hj
   have hj:=hi_lt hj
   simp only [lk] at h
   split at h
   ·rename_i e; subst e; exact ⟨hj,by rw [if_pos rfl]; exact h⟩
   ·rename_i e; obtain ⟨h1,h2⟩:=lk_lo h; exact ⟨h1,by rw [if_neg e]; exact h2⟩
theorem lk_append {α:Type} {k:Nat} {v:α}:∀ {l r:List (Nat×α)},lk k (l++r)=some v->lk k l=some v\/lk k r=some v
 | [],r,h=>.inr h
 | (j,u) :: l,r,h=>by
  simp only [List.cons_append,lk] at h ⊢
  split at h
  ·rename_i e; rw [if_pos e]; exact .inl h
  ·rename_i e; rw [if_neg e]; exact lk_append h
theorem lk_enter {σ:St} {k:Nat} {v:V} (h:lk k σ.enter.env=some v):(k < GH/\lk k σ.env=some v)\/(GH<=k/\lk (k-GH) σ.env=some v):=by
 rcases lk_append h with h | h
 ·exact .inl (lk_lo h)
 ·exact .inr (lk_up h)
def Base.inner (C:Base) (M:Nat->Prop) (σ:St) (a:Act) (W:World) (μ:Mu) (Fz Fy:Nat->Prop) (l:Nat):Base :=
 { N:=C.N,B:=W.heap.size,w0:=W,Fz0:=Fz,X:=fun b=>(∃ s,lk s σ.blk≠none/\∃ base,μ s=some (b,base))\/M b,Fy0:=Fy,M:=M,yl:=C.yl,rd:=some l,out:=fun k=>C.get a (k-GH) }
theorem BelowX.refl (C:Base) (h:C.B<=C.w0.heap.size):BelowX C C.w0:=⟨rfl,rfl,rfl,Nat.le_refl _,fun _ _ _=>rfl,fun k c e fr _ _ h=>⟨c,h,rfl⟩,Nat.le_refl _⟩
theorem Sim.enter {C:Base} {M:Nat->Prop} {σ:St} {a:Act} {W:World} {μ:Mu} {Fz Fy:Nat->Prop} (h:Sim (C.withM M) σ a W μ Fz Fy) {l:Nat} {r:Loop} (hl:W.heap[l]? = some (.loop r)) (hX:∀ s,lk s σ.blk≠none->∀ base,μ s≠some (l,base)) (hM:¬ M l) :
  Sim (C.inner M σ a W μ Fz Fy l) σ.enter { tmps:=a.tmps,defers:=[] } W μ Fz Fy:=by
 have hlt:l < W.heap.size:=(Array.getElem?_eq_some_iff.1 hl).1
 refine { defers:=fun d hd=>by simp at hd,dist:=.nil,size:=h.size,small:=h.small,env:=fun k v hk=>⟨trivial,?_⟩,blk:=h.blk,live:=fun s hs b base hm=>⟨.inr (.inl ⟨s,hs,base,hm⟩),(h.live s hs b base hm).2⟩,inj:=h.inj,zy:=h.zy,yl:=h.yl,gl:=h.gl,z0:=fun b hb=>.inl hb,y0:=fun b hb=>.inl hb,below:=BelowX.refl _ (Nat.le_refl _),big:=Nat.le_refl _,fm:=h.fm,mm:=fun b hb=>.inr (.inr hb),yd:=fun y hy=>?_,lp:=fun l' hl'=>?_ }
 ·rcases lk_enter hk with ⟨h1,h2⟩ | ⟨h1,h2⟩
  ·have:=(h.env k v h2).2
   rw [Base.get,if_pos h1] at this ⊢
   exact this
  ·have:=(h.env (k-GH) v h2).2
   rw [show (C.inner M σ a W μ Fz Fy l).get { tmps:=a.tmps,defers:=[] } k=C.get a (k-GH) from by rw [Base.get,if_neg (by omega)]; rfl]
   exact this
 ·obtain ⟨y1,y2,y3,y4,y5⟩:=h.yd y hy
  refine ⟨y1,y2,Nat.le_trans y3 h.big,fun b hlt hb=>?_,fun b hb=>.inr (.inr hb)⟩
  rcases hb with ⟨s,hs,base,hm⟩ | hb
  ·rcases (h.live s hs b base hm).1 with h1 | h1
   ·exact absurd h1 (by have:(C.withM M).B=C.B:=rfl; omega)
   ·exact y4 b hlt h1
  ·exact .inl hb
 ·have e:l=l':=by simpa [Base.inner] using hl'
  subst e
  exact ⟨hlt,fun hx=>hx.elim (fun ⟨s,hs,base,hm⟩=>hX s hs base hm) hM,r,hl⟩
def putAll (a:Act):List Nat->List Value->Act
 | p :: ps,v :: vs=>putAll (a.put (some p) v) ps vs
 | _,_=>a
theorem Sim.bind {C:Base} {W:World} {μ:Mu} {Fz Fy:Nat->Prop}:∀ {ps:List Nat} {xs:List FV} {us:List Value} {σ:St} {a:Act} {env:List (Nat×V)},Sim C σ a W μ Fz Fy->bindP C.N ps xs σ.env=some env->us.length=xs.length ->
  (∀ (j:Nat) (z:FV),xs[j]? = some z->∃ u,us[j]? = some u/\RepF (fun _=>False) W z u)->Sim C { σ with env:=env } (putAll a ps us) W μ Fz Fy
 | [],[],us,σ,a,env,h,hb,hl,hr=>by
  simp only [bindP,Option.some.injEq] at hb; subst hb
  exact h
 | p :: ps,x :: xs,u :: us,σ,a,env,h,hb,hl,hr=>by
  simp only [bindP] at hb
  split at hb
  ·rename_i hp
   obtain ⟨u',hu,hr0⟩:=hr 0 x rfl
   simp only [List.getElem?_cons_zero,Option.some.injEq] at hu; subst hu
   have h1:=h.set p hp (.fv false x) u (.fv _ _ _ (hr0.mono (fun _ x=>x.elim) (fun _ x=>x.elim)))
   rw [putAll]
   exact Sim.bind (ps:=ps) (xs:=xs) (us:=us) (σ:={ σ with env:=put p (.fv false x) σ.env }) (a:=a.put (some p) u) h1 hb (by simpa using hl) fun j z hj=>by simpa using hr (j+1) z (by simpa using hj)
  ·simp at hb
 | _ :: _,_ :: _,[],_,_,_,_,_,hl,_=>by simp at hl
 | [],_ :: _,_,_,_,_,_,hb,_,_=>by simp [bindP] at hb
 | _ :: _,[],_,_,_,_,_,hb,_,_=>by simp [bindP] at hb
theorem putAll_tmps:∀ (ps:List Nat) (vs:List Value) (a:Act),(putAll a ps vs).tmps=(ps.zip vs).foldl (fun t (p,v)=>t.setIfInBounds p v) a.tmps/\(putAll a ps vs).defers=a.defers
 | [],vs,a=>by simp [putAll]
 | p :: ps,[],a=>by simp [putAll]
 | p :: ps,v :: vs,a=>by
  obtain ⟨h1,h2⟩:=putAll_tmps ps vs (a.put (some p) v)
  exact ⟨by rw [putAll,h1]; rfl,by rw [putAll,h2]; rfl⟩
theorem keeps_put {W:World} {l:Nat} {r:Loop} (hl:W.heap[l]? = some (.loop r)) (o:Obj):Keeps W (W.putObj l o):=fun b c e fr hb=>by
 have hne:b≠l:=fun e=>by subst e; rw [hl] at hb; cases hb
 exact ⟨c,(World.putObj_heap_other hne).trans hb,rfl⟩
def Base.re (C:Base) (σ:St) (W:World) (μ:Mu) (Fz Fy:Nat->Prop):Base :=
 { C with B:=W.heap.size,w0:=W,Fz0:=Fz,Fy0:=Fy,X:=fun b=>(∃ s,lk s σ.blk≠none/\∃ base,μ s=some (b,base))\/C.M b }
theorem Sim.re {C:Base} {σ:St} {a:Act} {W:World} {μ:Mu} {Fz Fy:Nat->Prop} (h:Sim C σ a W μ Fz Fy) {l:Nat} {r r':Loop} (hrd:C.rd=some l) (hl:W.heap[l]? = some (.loop r))
  (h1:¬ Fy l) (h2:∀ s,lk s σ.blk≠none->∀ base,μ s≠some (l,base)) (h3:¬ C.M l) (h4:∀ y,C.yl=some y->y.n1<=l) :
  Sim (C.re σ (W.putObj l (.loop r')) μ Fz Fy) σ a (W.putObj l (.loop r')) μ Fz Fy:=by
 have hlt:l < W.heap.size:=(Array.getElem?_eq_some_iff.1 hl).1
 have hk:=keeps_put hl (.loop r')
 have hsame:∀ b,b≠l->(W.putObj l (.loop r')).heap[b]? = W.heap[b]?:=fun b hb=>World.putObj_heap_other hb
 have hfix:∀ b,Fy b->(W.putObj l (.loop r')).heap[b]? = W.heap[b]?:=fun b hb=>hsame b fun e=>h1 (e▸hb)
 have hyd:∀ y,C.yl=some y->μ YN=some (y.l,0)/\y.J σ.tr.length C.M (W.putObj l (.loop r'))/\y.n1<=(W.putObj l (.loop r')).heap.size/\(∀ b,b < y.n1->(C.re σ (W.putObj l (.loop r')) μ Fz Fy).X b->C.M b\/y.H b)/\∀ b,C.M b->(C.re σ (W.putObj l (.loop r')) μ Fz Fy).mine b:=fun y hy=>by
  obtain ⟨y1,y2,y3,y4,y5⟩:=h.yd y hy
  refine ⟨y1,y.stab _ _ _ _ y2 ⟨rfl,rfl,rfl,by simp,hk,fun b hb=>hsame b fun e=>?_,Nat.le_refl _⟩,by have:=h.big; simp; omega,fun b hlt hb=>?_,fun b hb=>.inr (.inr hb)⟩
  ·subst e
   rcases hb with hb | hb
   ·have:=h4 y hy; have:=hb.1; omega
   ·exact h3 hb
  ·rcases hb with ⟨s,hs,base,hm⟩ | hb
   ·rcases (h.live s hs b base hm).1 with k1 | k1
    ·omega
    ·exact y4 b hlt k1
   ·exact .inl hb
 have hlp:∀ l',C.rd=some l'->l' < (W.putObj l (.loop r')).heap.size/\¬ (C.re σ (W.putObj l (.loop r')) μ Fz Fy).X l'/\∃ r,(W.putObj l (.loop r')).heap[l']? = some (.loop r):=fun l' e=>by
  rw [hrd] at e
  simp only [Option.some.injEq] at e; subst e
  refine ⟨by simpa using hlt,fun hx=>?_,r',World.putObj_heap_same hlt⟩
  rcases hx with ⟨s,hs,base,hm⟩ | hb
  ·exact h2 s hs base hm
  ·exact h3 hb
 refine { defers:=fun d hd=>?_,dist:=h.dist,size:=h.size,small:=h.small,env:=fun k v hk'=>⟨trivial,?_⟩,blk:=fun t b hb=>?_,live:=fun s hs b base hm=>⟨.inr (.inl ⟨s,hs,base,hm⟩),by simpa using (h.live s hs b base hm).2.1,(h.live s hs b base hm).2.2⟩,inj:=h.inj,zy:=h.zy,yl:=fun b hb=>by simpa using h.yl b hb,z0:=fun b hb=>.inl hb,y0:=fun b hb=>.inl hb,below:=BelowX.refl _ (Nat.le_refl _),big:=Nat.le_refl _,fm:=fun b hb=>⟨by simpa using (h.fm b hb).1,(h.fm b hb).2⟩,yd:=hyd,lp:=hlp,mm:=fun b hb=>.inr (.inr hb),gl:=h.gl.mono (fun _ x=>x) (fun b x=>hfix b (h.zy b x)) }
 ·obtain ⟨D,e1,e2,e3,e4⟩:=h.defers d hd
  exact ⟨D,e1,e2,(fun e=>by have e':C.rd=none:=e; rw [hrd] at e'; cases e'),(hfix D e2).trans e4⟩
 ·exact (h.env k v hk').2.mono (fun _ x=>x) (fun _ x=>x) (fun b x=>hfix b (h.zy b x)) hfix hk (fun _=>False) (fun _ _=>.inr ⟨rfl,rfl⟩) (fun _ x=>x) (fun _ x=>x.elim)
 ·exact (h.blk t b hb).mono (fun _ x=>x) (fun _ x=>x) (fun b x=>hfix b (h.zy b x)) hfix hk (fun _=>False) (fun _ _=>.inr ⟨rfl,rfl⟩) (fun _ x=>x) rfl (fun b' base hm=>hsame b' fun e=>h2 t (by simp [hb]) base (e▸hm)) (fun _ x=>x.elim)
theorem Sim.putLoop {C:Base} {σ:St} {a:Act} {W:World} {μ:Mu} {Fz Fy:Nat->Prop} (h:Sim C σ a W μ Fz Fy) {l:Nat} {r:Loop} (hl:W.heap[l]? = some (.loop r)) (hb:C.B<=l)
  (h1:¬ Fy l) (h2:∀ s,lk s σ.blk≠none->∀ base,μ s≠some (l,base)) (h3:¬ C.M l) (o:Obj):Sim C σ a (W.putObj l o) μ Fz Fy:=by
 have hk:=keeps_put hl o
 have hsame:∀ b,b≠l->(W.putObj l o).heap[b]? = W.heap[b]?:=fun b hb=>World.putObj_heap_other hb
 refine h.stays { keeps:=hk,fixed:=fun b hb=>hsame b fun e=>h1 (e▸hb),own:=fun s hs b base hm=>hsame b fun e=>h2 s hs base (e▸hm),below:=?_,size:=by simp,rest:=fun b hb=>hsame b fun e=>h3 (e▸hb),drawn:=Nat.le_refl _ }
 refine ⟨h.below.os,h.below.tape,h.below.output,by simpa using h.below.size,fun k hk1 hx=>(hsame k (by omega)).trans (h.below.block k hk1 hx),fun k c e fr hx hk1 hc=>?_,h.below.drawn⟩
 obtain ⟨c',e1,e2⟩:=h.below.kept k c e fr hx hk1 hc
 exact ⟨c',(hsame k (by omega)).trans e1,e2⟩
theorem Sim.back {C Ci:Base} {My M2:Nat->Prop} {σn τ:St} {a a2:Act} {W Wd:World} {μn μ2:Mu} {Fzn Fyn Fz2 Fy2:Nat->Prop} {l:Nat} (h:Sim (C.withM My) σn a W μn Fzn Fyn) (S:Sim Ci τ a2 Wd μ2 Fz2 Fy2) (eM:Ci.M=M2)
  (own:Nat->Prop) (hown:∀ b,own b->W.heap.size<=b\/(∃ s,lk s σn.blk≠none/\∃ base,μn s=some (b,base))\/My b)
  (ey:Ci.yl=C.yl) (eo:Ci.out=fun k=>C.get a (k-GH)) (hMM:∀ b,My b->M2 b) (hMo:∀ b,M2 b->own b)
  (hlive:∀ s,lk s τ.blk≠none->∀ b base,μ2 s=some (b,base)->own b) (hz:∀ b,Fz2 b->Fzn b\/own b) (hy:∀ b,Fy2 b->Fyn b\/own b)
  (hbl:C.B<=l) (hl2:¬ Fyn l) (hos:Wd.os=W.os) (htp:Wd.tape=W.tape) (hou:Wd.output=W.output) (hsz:W.heap.size<=Wd.heap.size) (hdr:W.drawn<=Wd.drawn) (hk:Keeps W Wd) (hblk:∀ b,b < W.heap.size->¬ own b->b≠l->Wd.heap[b]? = W.heap[b]?) :
  Sim (C.withM M2) τ.leave a Wd μ2 Fz2 (fun b=>Fy2 b\/∃ d∈a.defers,d.target = .collected b):=by
 have hmine:∀ b,own b->¬ My b->C.mine b:=fun b hb hn=>by
  rcases hown b hb with k1 | ⟨s,hs,base,hm⟩ | k1
  ·exact .inl (Nat.le_trans h.big k1)
  ·exact (h.live s hs b base hm).1
  ·exact absurd k1 hn
 have hnf:∀ b,own b->¬ Fyn b:=fun b hb hf=>by
  rcases hown b hb with k1 | ⟨s,hs,base,hm⟩ | k1
  ·exact absurd (h.yl b hf) (by omega)
  ·exact (h.live s hs b base hm).2.2 hf
  ·exact (h.fm b k1).2.1 hf
 have hmk:∀ b,(∃ d∈a.defers,d.target=Target.collected b)->Fyn b:=fun b ⟨d,hd,e⟩=>by
  obtain ⟨D,e1,e2,_⟩:=h.defers d hd
  rw [e] at e1
  cases e1; exact e2
 have hfy:∀ b,Fyn b->Wd.heap[b]? = W.heap[b]?:=fun b hb=>hblk b (h.yl b hb) (fun ho=>hnf b ho hb) fun e=>hl2 (e▸hb)
 have hSM:∀ b,M2 b->¬ Fy2 b:=fun b hb=>(S.fm b (eM▸hb)).2.1
 have hlM:∀ s,lk s τ.blk≠none->∀ b base,μ2 s=some (b,base)->¬ M2 b:=fun s hs b base hm hM=>(S.fm b (eM▸hM)).2.2 s hs base hm
 have hbel:BelowX (C.withM M2) Wd:=by
  have hB:=h.below
  refine ⟨hos.trans hB.os,htp.trans hB.tape,hou.trans hB.output,Nat.le_trans hB.size hsz,fun k hk1 hx=>?_,fun k c e fr hx hk1 hc=>?_,Nat.le_trans hB.drawn hdr⟩
  ·refine (hblk k (Nat.lt_of_lt_of_le hk1 h.big) (fun ho=>?_) (by have:(C.withM M2).B=C.B:=rfl; omega)).trans (hB.block k hk1 hx)
   by_cases hm:My k
   ·rcases h.mm k hm with k1 | k1
    ·have:(C.withM My).B=(C.withM M2).B:=rfl
     omega
    ·exact hx k1
   ·rcases hmine k ho hm with k1 | k1
    ·have:(C.withM M2).B=C.B:=rfl
     omega
    ·exact hx k1
  ·obtain ⟨c1,e1,e2⟩:=hB.kept k c e fr hx hk1 hc
   obtain ⟨c2,e3,e4⟩:=hk k c1 e fr e1
   exact ⟨c2,e3,e4.trans e2⟩
 have hyd:∀ y,C.yl=some y->μ2 YN=some (y.l,0)/\y.J τ.tr.length M2 Wd/\y.n1<=C.B/\(∀ b,b < y.n1->C.X b->M2 b\/y.H b)/\∀ b,M2 b->C.mine b:=fun y hy=>by
  obtain ⟨y1,y2,_,_,_⟩:=S.yd y (ey.trans hy)
  obtain ⟨_,_,z3,z4,z5⟩:=h.yd y hy
  refine ⟨y1,eM▸y2,z3,fun b hlt hx=>(z4 b hlt hx).imp (hMM b) id,fun b hb=>?_⟩
  by_cases hm:My b
  ·exact z5 b hm
  ·exact hmine b (hMo b hb) hm
 refine { defers:=fun d hd=>?_,dist:=h.dist,size:=h.size,small:=h.small,env:=fun k v hk'=>⟨trivial,?_⟩,blk:=fun t b hb=>?_,live:=fun s hs b base hm=>⟨hmine b (hlive s hs b base hm) fun hM=>hlM s hs b base hm (hMM b hM),(S.live s hs b base hm).2.1,?_⟩,inj:=S.inj,zy:=fun b hb=>.inl (S.zy b hb),yl:=fun b hb=>?_,z0:=fun b hb=>?_,y0:=fun b hb=>?_,below:=hbel,big:=Nat.le_trans h.big hsz,fm:=fun b hb=>⟨(S.fm b (eM▸hb)).1,?_,(S.fm b (eM▸hb)).2.2⟩,yd:=hyd,lp:=h.lp,mm:=fun b hb=>(Classical.em (My b)).elim (fun hm=>h.mm b hm) (fun hm=>hmine b (hMo b hb) hm),gl:=S.gl }
 ·obtain ⟨D,e1,e2,e3,e4⟩:=h.defers d hd
  exact ⟨D,e1,.inr ⟨d,hd,e1⟩,e3,(hfy D e2).trans e4⟩
 ·have hr:=(S.env (k+GH) v (lk_dn hk')).2
  rw [show Ci.get a2 (k+GH)=C.get a k from by rw [Base.get,if_neg (by omega),eo]; simp] at hr
  exact hr.mono (fun _ x=>x) (fun _ x=>.inl x) (fun _ _=>rfl) (fun _ _=>rfl) (Keeps.refl Wd) (fun _=>False) (fun _ _=>.inr ⟨rfl,rfl⟩) (fun _ x=>x) (fun _ x=>x.elim)
 ·exact (S.blk t b hb).mono (fun _ x=>x) (fun _ x=>.inl x) (fun _ _=>rfl) (fun _ _=>rfl) (Keeps.refl Wd) (fun _=>False) (fun _ _=>.inr ⟨rfl,rfl⟩) (fun _ x=>x) rfl (fun _ _ _=>rfl) (fun _ x=>x.elim)
 ·rintro (hf | hf)
  ·exact (S.live s hs b base hm).2.2 hf
  ·exact hnf b (hlive s hs b base hm) (hmk b hf)
 ·rcases hb with hb | hb
  ·exact S.yl b hb
  ·exact Nat.lt_of_lt_of_le (h.yl b (hmk b hb)) hsz
 ·rcases hz b hb with k1 | k1
  ·exact h.z0 b k1
  ·exact .inr (hmine b k1 fun hM=>hSM b (hMM b hM) (S.zy b hb))
 ·rcases hb with hb | hb
  ·rcases hy b hb with k1 | k1
   ·exact h.y0 b k1
   ·exact .inr (hmine b k1 fun hM=>hSM b (hMM b hM) hb)
  ·exact h.y0 b (hmk b hb)
 ·rintro (hf | hf)
  ·exact hSM b hb hf
  ·exact hnf b (hMo b hb) (hmk b hf)
def upTo (st:Option Nat) (xs:List (List FV)):List (List FV) :=
 match st with
 | none=>xs
 | some i=>xs.take (i+1)
theorem memN_mem {j:Nat}:∀ {l:List Nat},memN j l=true->j∈l
 | [],h=>by simp [memN] at h
 | k :: r,h=>by
  simp only [memN] at h
  split at h
  ·rename_i e; subst e; simp
  ·exact List.mem_cons_of_mem _ (memN_mem h)
theorem lk_kpIf_p {α:Type} {p:Nat->Bool} {k:Nat} {v:α}:∀ {l:List (Nat×α)},lk k (kpIf p l)=some v->p k=true
 | [],h=>by simp [kpIf,lk] at h
 | (j,u) :: r,h=>by
  simp only [kpIf] at h
  split at h
  ·rename_i hp
   simp only [lk] at h
   split at h
   ·rename_i e; subst e; exact hp
   ·exact lk_kpIf_p h
  ·exact lk_kpIf_p h
theorem lk_mem' {α:Type} {k:Nat} {v:α}:∀ {l:List (Nat×α)},lk k l=some v->(k,v)∈l
 | [],h=>by simp [lk] at h
 | (j,u) :: r,h=>by
  simp only [lk] at h
  split at h
  ·rename_i e; simp only [Option.some.injEq] at h; subst e; subst h; simp
  ·exact List.mem_cons_of_mem _ (lk_mem' h)
theorem bcells_bmapB (f:V->V) (b:Blk):bcells (bmapB f b)=(bcells b).map f:=by
 cases b<;>simp [bmapB,bcells]
theorem yfree_mapV {g:Nat->Option Nat}:∀ (n m:Nat) {x:V},yfree n x=true->yfree n (mapV g m x)=true
 | 0,_,_,h=>by simp [yfree] at h
 | n+1,0,_,_=>rfl
 | n+1,m+1,x,h=>by
  cases x with
  | yv=>simp [yfree] at h
  | top=>rfl
  | fv=>rfl
  | own s o l=>simp only [mapV]; split<;>rfl
  | ptr s o=>simp only [mapV]; split<;>rfl
  | pel s i j=>simp only [mapV]; split<;>rfl
  | map s=>simp only [mapV]; split<;>rfl
  | agg cs =>
   simp only [yfree,mapV,List.all_eq_true,List.all_map] at h ⊢
   intro y hy; exact yfree_mapV n m (h y hy)
  | tup cs =>
   simp only [yfree,mapV,List.all_eq_true,List.all_map] at h ⊢
   intro y hy; exact yfree_mapV n m (h y hy)
  | fn f a b =>
   simp only [yfree,mapV,Bool.and_eq_true,List.all_eq_true,List.all_map] at h ⊢
   exact ⟨fun y hy=>yfree_mapV n m (h.1 y hy),fun y hy=>yfree_mapV n m (h.2 y hy)⟩
theorem Sim.frees {C:Base} {a:Act} {w:World} {μ:Mu} {Fz Fy:Nat->Prop}:∀ {ns:List Nat} {σ:St},Sim C σ a w μ Fz Fy->Sim C (E.frees σ ns) a w μ Fz Fy
 | [],_,h=>h
 | s :: ns,_,h=>Sim.frees (ns:=ns) (h.drop s)
def Ex.code:Ex->Code
 | .normal=>.skip
 | .exit id=>.exit id
 | .ret=>.ret
theorem rounds_idx {F:St->Option (Ex×St)} {N:Nat} {ps:List Nat}:∀ {xs:List (List FV)} {n:Nat} {σ σ':St} {e:Ex} {st:Option Nat},rounds F N ps n xs σ=some (st,e,σ')->∀ i,st=some i->n<=i/\i < n+xs.length/\e≠.normal
 | [],n,σ,σ',e,st,h,i,hi=>by simp only [rounds,Option.some.injEq,Prod.mk.injEq] at h; obtain ⟨rfl,_⟩:=h; cases hi
 | x :: r,n,σ,σ',e,st,h,i,hi=>by
  simp only [rounds] at h
  split at h
  ·split at h
   ·obtain ⟨h1,h2,h3⟩:=rounds_idx h i hi
    exact ⟨by omega,by simp; omega,h3⟩
   ·rename_i e' σ1 hne _
    simp only [Option.some.injEq,Prod.mk.injEq] at h
    obtain ⟨rfl,rfl,rfl⟩:=h
    cases hi
    exact ⟨Nat.le_refl _,by simp,fun e=>hne e⟩
   ·simp at h
  ·simp at h
theorem bindP_len {N:Nat}:∀ {ps:List Nat} {xs:List FV} {env env':List (Nat×V)},bindP N ps xs env=some env'->ps.length=xs.length
 | [],[],_,_,_=>rfl
 | p :: ps,x :: xs,env,env',h=>by
  simp only [bindP] at h
  split at h
  ·simp [bindP_len h]
  ·simp at h
 | [],_ :: _,_,_,h=>by simp [bindP] at h
 | _ :: _,[],_,_,h=>by simp [bindP] at h
def Sound (G:Pg) (L:Live) (N:Nat) (D:Drawer) (n:Nat) (c:Code):Prop :=
 ∀ (C:Base) (σ σ':St) (e:Ex) (a:Act) (w:World) (μ:Mu) (Fz Fy:Nat->Prop) (Q:Exit->Act->World->Prop) (rm:Nat),C.N=N->YOk G C->Sim C σ a w μ Fz Fy->exec G L N D n c σ=some (e,σ') ->
  (∀ M' a' w' μ' Fz' Fy',More C M'->Sim (C.withM M') σ' a' w' μ' Fz' Fy'->Q e.toExit a' w')->c.wpIn (FR C.rd) rm G.P Q a w
structure RJ (C:Base) (a:Act) (F:St->Option (Ex×St)) (ps:List Nat) (xs:List (List FV)) (st:Option Nat) (e0:Ex) (σ':St) (l n1:Nat) (H:Nat->Prop) (Dm:Option Nat) (rec:LoopState->Option Code->Loop) (n:Nat) (M:Nat->Prop) (W:World):Prop where
 ex:∃ My μn Fzn Fyn σn,More C My/\(∀ b,My b->M b)/\Sim (C.withM My) σn a W μn Fzn Fyn/\(∀ s,lk s σn.blk≠none->∀ b base,μn s=some (b,base)->M b/\b≠l/\Dm≠some b)/\(∀ b,Fyn b->((b < n1/\¬ H b)\/M b)/\b≠l/\Dm≠some b)/\(∀ b,My b->b≠l/\Dm≠some b) ∧
  ((rounds F C.N ps n (xs.drop n) σn=some (st,e0,σ')/\W.heap[l]? = some (.loop (rec .ready none)))\/(∃ i,st=some i/\n=i+1/\σn=σ'/\W.heap[l]? = some (.loop (rec .done (some e0.code)))))
 ml:M l
 md:∀ D,Dm=some D->M D/\D≠l/\C.B<=D/\W.heap[D]? = some (.deferred (some []))
 lt:∀ b,M b->b < W.heap.size
 big:n1<=W.heap.size
 cb:C.B<=l
 ln:l < n1
section
variable {C:Base} {a:Act} {F:St->Option (Ex×St)} {ps:List Nat} {xs:List (List FV)} {st:Option Nat} {e0:Ex} {σ':St} {l n1:Nat} {H:Nat->Prop} {Dm:Option Nat} {rec:LoopState->Option Code->Loop} {G:Pg}
theorem RJ.stab (hn1:C.B<=n1) (hH:∀ b,H b->C.mine b) (n:Nat) (M:Nat->Prop) (W W':World) (h:RJ C a F ps xs st e0 σ' l n1 H Dm rec n M W) (g:Grow n1 H M W W'):RJ C a F ps xs st e0 σ' l n1 H Dm rec n M W':=by
 obtain ⟨⟨My,μn,Fzn,Fyn,σn,h1,h2,h3,h4,h5,h6,h7⟩,hl,hd,hlt,hb,hc,hln⟩:=h
 refine ⟨⟨My,μn,Fzn,Fyn,σn,h1,h2,?_,h4,h5,h6,?_⟩,hl,fun D e=>?_,fun b hb=>Nat.lt_of_lt_of_le (hlt b hb) g.size,Nat.le_trans hb g.size,hc,hln⟩
 ·refine h3.stays { keeps:=g.keeps,fixed:=fun b hb=>g.block b (h5 b hb).1,own:=fun s hs b base hm=>g.block b (.inr (h4 s hs b base hm).1),below:=?_,size:=g.size,rest:=fun b hb=>g.block b (.inr (h2 b hb)),drawn:=g.drawn }
  have hB:=h3.below
  have hs:∀ k,k < C.B->¬ C.X k->W'.heap[k]? = W.heap[k]?:=fun k hk hx=>g.block k (.inl ⟨by omega,fun hk'=>(hH k hk').elim (fun k1=>by omega) hx⟩)
  refine ⟨g.os.trans hB.os,g.tape.trans hB.tape,g.output.trans hB.output,Nat.le_trans hB.size g.size,fun k hk hx=>(hs k hk hx).trans (hB.block k hk hx),fun k c e fr hx hk hc'=>?_,Nat.le_trans hB.drawn g.drawn⟩
  obtain ⟨c',e1,e2⟩:=hB.kept k c e fr hx hk hc'
  obtain ⟨c2,e3,e4⟩:=g.keeps k c' e fr e1
  exact ⟨c2,e3,e4.trans e2⟩
 ·have e:=g.block l (.inr hl)
  rcases h7 with ⟨k1,k2⟩ | ⟨i,k1,k2,k3,k4⟩
  ·exact .inl ⟨k1,e.trans k2⟩
  ·exact .inr ⟨i,k1,k2,k3,e.trans k4⟩
 ·obtain ⟨k1,k2,k3,k4⟩:=hd D e
  exact ⟨k1,k2,k3,(g.block D (.inr k1)).trans k4⟩
theorem fold_putAll (psa:Array Nat) (us:List Value) (a:Act):(psa.zip us.toArray).foldl (fun t (p,v)=>t.setIfInBounds p v) a.tmps=(putAll { tmps:=a.tmps,defers:=[] } psa.toList us).tmps:=by
 rw [(putAll_tmps psa.toList us _).1,<-Array.foldl_toList]
 simp
theorem round_sound {L : Live} {D : Drawer} {m : Nat} {assign body : Code} (hA : Sound G L C.N D m assign) (hB : Sound G L C.N D m body) (hY : YOk G C)
    (hF : F = fun τ => match exec G L C.N D m assign τ with
            | some (.normal,τ') => exec G L C.N D m body τ'
            | _ => none)
    {fn dfr : Nat} {psa : Array Nat} (hps : ps = psa.toList) (hrec : rec = fun s pe => { state := s,pending := pe,fn,tmps := a.tmps,params := psa,assign,body,defers := dfr }) (hny : ∀ y,C.yl = some y → y.n1 ≤ C.B)
    (n : Nat) (x : List FV) (M : Nat → Prop) (W : World) (us : List Value) (h : RJ C a F ps xs st e0 σ' l n1 H Dm rec n M W) (hx : (upTo st xs)[n]? = some x) (hus : us.length = x.length)
    (hr : ∀ (j : Nat) (z : FV),x[j]? = some z → ∃ u,us[j]? = some u ∧ RepF (fun _ => False) W z u) :
    ∃ fn tmps assign body,(Instr.yield l us.toArray).run G.P W = .ok (.round l fn tmps assign body) W ∧ RoundIn Fence.wide 0 G.P l fn tmps assign body W (fun e w' => e = .returned (.bool (ans st n)) ∧ ∃ M',RJ C a F ps xs st e0 σ' l n1 H Dm rec (n + 1) M' w' ∧ Turn M M' W w') := by
  obtain ⟨⟨My,μn,Fzn,Fyn,σn,h1,h2,h3,h4,h5,h6,h7⟩,hml,hmd,hlt,hbig,hcb,hln⟩ := h
  have hxx : xs[n]? = some x := by
    cases st with
    | none => exact hx
    | some i => simp only [upTo,List.getElem?_take] at hx; split at hx; exact hx; simp at hx
  have hdrop : xs.drop n = x :: xs.drop (n + 1) := by
    have hlen := (List.getElem?_eq_some_iff.1 hxx).1
    rw [List.drop_eq_getElem_cons hlen]
    congr 1
    exact (List.getElem?_eq_some_iff.1 hxx).2
  obtain ⟨hrd,hl⟩ : rounds F C.N ps n (xs.drop n) σn = some (st,e0,σ') ∧ W.heap[l]? = some (.loop (rec .ready none)) := by
    rcases h7 with h7 | ⟨i,k1,k2,_⟩
    · exact h7
    · subst k1; subst k2
      simp only [upTo,List.getElem?_take] at hx
      rw [if_neg (by omega)] at hx
      simp at hx
  rw [hdrop] at hrd
  simp only [rounds] at hrd
  split at hrd
  rotate_left
  · simp at hrd
  rename_i env henv
  have hlW : l < W.heap.size := (Array.getElem?_eq_some_iff.1 hl).1
  have hyl : ∀ y,C.yl = some y → y.n1 ≤ l := fun y hy => Nat.le_trans (hny y hy) hcb
  have S0 := h3.enter (l := l) hl (fun s hs base hm => (h4 s hs l base hm).2.1 rfl) (fun hm => (h6 l hm).1 rfl)
  have S1 := Sim.bind (C := C.inner My σn a W μn Fzn Fyn l) (ps := ps) (xs := x) (us := us) S0 henv hus hr
  have hplen := bindP_len henv
  have hyd := run_yield (P := G.P) (args := us.toArray) hl (by rw [hrec]; simp [hus,← hplen,hps])
  rw [hrec] at hyd
  simp only at hyd
  refine ⟨_,_,_,_,hyd,?_⟩
  clear hyd
  refine roundIn_of_wpIn (F := Fence.wide) trivial ?_
  rw [show Fence.wide.inRound l = FR (C.inner My σn a W μn Fzn Fyn l).rd from rfl,fold_putAll psa us a,← hps]
  have eact : ({ tmps := (putAll { tmps := a.tmps,defers := [] } ps us).tmps,defers := [] } : Act) = putAll { tmps := a.tmps,defers := [] } ps us := by
    have := (putAll_tmps ps us { tmps := a.tmps,defers := [] }).2
    generalize putAll { tmps := a.tmps,defers := [] } ps us = q at this ⊢
    cases q; simp only at this; subst this; rfl
  rw [eact]
  have hYi : YOk G (C.inner My σn a W μn Fzn Fyn l) := ⟨hY.y⟩
  obtain ⟨τ1,hτ1,hτ2⟩ : ∃ τ1,exec G L C.N D m assign { σn.enter with env := env } = some (.normal,τ1) ∧ F { σn.enter with env := env } = exec G L C.N D m body τ1 := by
    rw [hF] at hrd ⊢
    simp only at hrd ⊢
    cases hq : exec G L C.N D m assign { σn.enter with env := env } with
    | none => rw [hq] at hrd; simp at hrd
    | some p =>
      obtain ⟨e,τ⟩ := p
      cases e with
      | normal => exact ⟨τ,rfl,rfl⟩
      | exit id => rw [hq] at hrd; simp at hrd
      | ret => rw [hq] at hrd; simp at hrd
  rw [hτ2] at hrd
  clear hτ2
  refine hA (C.inner My σn a W μn Fzn Fyn l) _ _ _ _ _ _ _ _ _ 0 rfl hYi S1 hτ1 fun M1 a1 Wa μ1 Fz1 Fy1 hM1 S2 => ?_
  have hM1' : ∀ b,M1 b → My b ∨ W.heap.size ≤ b := hM1.new
  generalize hown : (fun b => W.heap.size ≤ b ∨ (∃ s,lk s σn.blk ≠ none ∧ ∃ base,μn s = some (b,base)) ∨ My b) = own
  have own_in : ∀ b,own b ↔ (W.heap.size ≤ b ∨ (∃ s,lk s σn.blk ≠ none ∧ ∃ base,μn s = some (b,base)) ∨ My b) := fun b => by rw [← hown]
  have ownl : ∀ b,own b → b ≠ l ∧ Dm ≠ some b := fun b hb => by
    rcases (own_in b).1 hb with k | ⟨s,hs,base,hm⟩ | k
    · exact ⟨by omega,fun e => by have := hlt b (hmd b e).1; omega⟩
    · exact (h4 s hs b base hm).2
    · exact h6 b k
  have oM1 : ∀ b,M1 b → own b := fun b hb => (own_in b).2 ((hM1' b hb).elim (fun k => .inr (.inr k)) .inl)
  have olive1 : ∀ s,lk s τ1.blk ≠ none → ∀ b base,μ1 s = some (b,base) → own b := fun s hs b base hm => (own_in b).2 (S2.live s hs b base hm).1
  have oz1 : ∀ b,Fz1 b → Fzn b ∨ own b := fun b hb => (S2.z0 b hb).imp id fun k => (own_in b).2 k
  have oy1 : ∀ b,Fy1 b → Fyn b ∨ own b := fun b hb => (S2.y0 b hb).imp id fun k => (own_in b).2 k
  have ny1 : ∀ b,Fy1 b → b ≠ l := fun b hb => (oy1 b hb).elim (fun k => (h5 b k).2.1) (fun k => (ownl b k).1)
  have hWa : ∀ b,b < W.heap.size → ¬ own b → Wa.heap[b]? = W.heap[b]? := fun b hb ho => S2.below.block b hb fun hx => ho ((own_in b).2 (.inr hx))
  have hla : Wa.heap[l]? = some (.loop (rec .ready none)) := (hWa l hlW fun ho => (ownl l ho).1 rfl).trans hl
  refine ⟨_,run_beginRound hla (by rw [hrec]),?_⟩
  have S3 := S2.re (l := l) (r' := { rec .ready none with state := .busy }) rfl hla (fun hf => ny1 l hf rfl) (fun s hs base hm => (ownl l (olive1 s hs l base hm)).1 rfl) (fun hm => (ownl l (oM1 l hm)).1 rfl) hyl
  generalize hWb : Wa.putObj l (.loop { rec .ready none with state := .busy }) = Wb at S3
  have hlWa : l < Wa.heap.size := (Array.getElem?_eq_some_iff.1 hla).1
  have hlb : Wb.heap[l]? = some (.loop { rec .ready none with state := .busy }) := by rw [← hWb]; exact World.putObj_heap_same hlWa
  have hWab : ∀ b,b ≠ l → Wb.heap[b]? = Wa.heap[b]? := fun b hb => by rw [← hWb]; exact World.putObj_heap_other hb
  have hszb : Wb.heap.size = Wa.heap.size := by rw [← hWb]; simp
  have hWsz : W.heap.size ≤ Wa.heap.size := S2.below.size
  generalize hC2 : Base.re ((C.inner My σn a W μn Fzn Fyn l).withM M1) τ1 Wb μ1 Fz1 Fy1 = C2 at S3
  have c2N : C2.N = C.N := by rw [← hC2]; rfl
  have c2y : C2.yl = C.yl := by rw [← hC2]; rfl
  have c2o : C2.out = fun k => C.get a (k - GH) := by rw [← hC2]; rfl
  have c2r : C2.rd = some l := by rw [← hC2]; rfl
  have c2B : C2.B = Wb.heap.size := by rw [← hC2]; rfl
  have c2w : C2.w0 = Wb := by rw [← hC2]; rfl
  have c2M : C2.M = M1 := by rw [← hC2]; rfl
  have c2X : ∀ b,C2.X b → own b := fun b hb => by
    rw [← hC2] at hb
    rcases hb with ⟨s,hs,base,hm⟩ | k
    · exact olive1 s hs b base hm
    · exact oM1 b k
  have c2z : ∀ b,C2.Fz0 b → Fzn b ∨ own b := fun b hb => by rw [← hC2] at hb; exact oz1 b hb
  have c2yy : ∀ b,C2.Fy0 b → Fyn b ∨ own b := fun b hb => by rw [← hC2] at hb; exact oy1 b hb
  have c2mine : ∀ b,C2.mine b → own b := fun b hb => hb.elim (fun k => (own_in b).2 (.inl (by rw [c2B] at k; omega))) (c2X b)
  have hY2 : YOk G C2 := ⟨fun xs st e => by obtain ⟨zs,y,e1,e2,e3⟩ := hY.y xs st e; exact ⟨zs,y,e1,c2y.trans e2,e3⟩⟩
  clear hC2
  have key : ∀ (e : Ex) (τ2 : St),exec G L C.N D m body τ1 = some (e,τ2) → ∀ (pe : Option Code) (s' : LoopState),s' = (if pe.isNone then .ready else .done) →
      (∀ M2 a2 Wc μ2 Fz2 Fy2,More C2 M2 → Sim (C2.withM M2) τ2 a2 Wc μ2 Fz2 Fy2 →
        Wc.heap[l]? = some (.loop { rec .ready none with state := .busy }) ∧ ∃ M',(∀ b,M b → M' b) ∧ Turn M M' W (Wc.putObj l (.loop (rec s' pe))) ∧
          ∃ Fy3,Sim (C.withM M2) τ2.leave a (Wc.putObj l (.loop (rec s' pe))) μ2 Fz2 Fy3 ∧ More C M2 ∧ (∀ b,M2 b → M' b) ∧ (∀ s,lk s τ2.leave.blk ≠ none → ∀ b base,μ2 s = some (b,base) → M' b ∧ b ≠ l ∧ Dm ≠ some b) ∧ (∀ b,Fy3 b → ((b < n1 ∧ ¬ H b) ∨ M' b) ∧ b ≠ l ∧ Dm ≠ some b) ∧ (∀ b,M2 b → b ≠ l ∧ Dm ≠ some b) ∧
          (∀ D,Dm = some D → M' D ∧ D ≠ l ∧ C.B ≤ D ∧ (Wc.putObj l (.loop (rec s' pe))).heap[D]? = some (.deferred (some []))) ∧ (∀ b,M' b → b < (Wc.putObj l (.loop (rec s' pe))).heap.size) ∧ n1 ≤ (Wc.putObj l (.loop (rec s' pe))).heap.size) := by
    intro e τ2 he pe s' hs' M2 a2 Wc μ2 Fz2 Fy2 hM2 S4
    have hM2' : ∀ b,M2 b → own b := fun b hb => (hM2.new b hb).elim (fun k => oM1 b (c2M ▸ k)) fun k => (own_in b).2 (.inl (by rw [c2B] at k; omega))
    have hbel := S4.below
    have hWc : ∀ b,b < Wb.heap.size → ¬ own b → Wc.heap[b]? = Wb.heap[b]? := fun b hb ho => (hbel.block b (by show b < C2.B; rw [c2B]; exact hb) fun hx => ho (c2X b hx)).trans (by show C2.w0.heap[b]? = _; rw [c2w])
    have hlc : Wc.heap[l]? = some (.loop { rec .ready none with state := .busy }) := (hWc l (by omega) fun ho => (ownl l ho).1 rfl).trans hlb
    refine ⟨hlc,fun b => M b ∨ (W.heap.size ≤ b ∧ b < Wc.heap.size),fun b hb => .inl hb,?_⟩
    have hszc : Wb.heap.size ≤ Wc.heap.size := by have := hbel.size; rw [show (C2.withM M2).w0 = Wb from c2w] at this; exact this
    have live2 : ∀ s,lk s τ2.blk ≠ none → ∀ b base,μ2 s = some (b,base) → own b := fun s hs b base hm => c2mine b (S4.live s hs b base hm).1
    have z2 : ∀ b,Fz2 b → Fzn b ∨ own b := fun b hb => (S4.z0 b hb).elim (c2z b) fun k => .inr (c2mine b k)
    have yy2 : ∀ b,Fy2 b → Fyn b ∨ own b := fun b hb => (S4.y0 b hb).elim (c2yy b) fun k => .inr (c2mine b k)
    have hne2 : ∀ b,Fyn b ∨ own b → b ≠ l ∧ Dm ≠ some b := fun b hb => hb.elim (fun k => (h5 b k).2) (ownl b)
    have S5 := S4.re (l := l) (r' := rec s' pe) c2r hlc (fun hf => (hne2 l (yy2 l hf)).1 rfl) (fun s hs base hm => (ownl l (live2 s hs l base hm)).1 rfl) (fun hm => (ownl l (hM2' l hm)).1 rfl) (fun y hy => hyl y (c2y ▸ hy))
    generalize hWd : Wc.putObj l (.loop (rec s' pe)) = Wd at S5
    have hWcd : ∀ b,b ≠ l → Wd.heap[b]? = Wc.heap[b]? := fun b hb => by rw [← hWd]; exact World.putObj_heap_other hb
    have hszd : Wd.heap.size = Wc.heap.size := by rw [← hWd]; simp
    have hos : Wd.os = W.os ∧ Wd.tape = W.tape ∧ Wd.output = W.output := by
      have k1 := S2.below; have k2 := hbel
      have o1 := k1.os; have o2 := k1.tape; have o3 := k1.output
      have p1 := k2.os; have p2 := k2.tape; have p3 := k2.output
      rw [show (C2.withM M2).w0 = Wb from c2w,← hWb] at p1 p2 p3
      rw [← hWd]
      exact ⟨p1.trans o1,p2.trans o2,p3.trans o3⟩
    have hdr : W.drawn ≤ Wd.drawn := by
      have q1 : W.drawn ≤ Wa.drawn := S2.below.drawn
      have q2 : Wb.drawn = Wa.drawn := by rw [← hWb]; rfl
      have q3 : Wb.drawn ≤ Wc.drawn := by have := hbel.drawn; rwa [show (C2.withM M2).w0 = Wb from c2w] at this
      have q4 : Wd.drawn = Wc.drawn := by rw [← hWd]; rfl
      omega
    have hk1 : Keeps W Wa := fun b c ee fr hb => by
      by_cases ho : (C.inner My σn a W μn Fzn Fyn l).X b
      · exact S2.below.kept b c ee fr ho (Array.getElem?_eq_some_iff.1 hb).1 hb
      · exact ⟨c,(S2.below.block b (Array.getElem?_eq_some_iff.1 hb).1 ho).trans hb,rfl⟩
    have hk2 : Keeps Wa Wb := by rw [← hWb]; exact keeps_put hla _
    have hk3 : Keeps Wb Wc := fun b c ee fr hb => by
      have hbl := (Array.getElem?_eq_some_iff.1 hb).1
      by_cases ho : C2.X b
      · exact hbel.kept b c ee fr ho (by show b < C2.B; rw [c2B]; exact hbl) (by rw [show (C2.withM M2).w0 = Wb from c2w]; exact hb)
      · exact ⟨c,(hbel.block b (by show b < C2.B; rw [c2B]; exact hbl) ho).trans (by rw [show (C2.withM M2).w0 = Wb from c2w]; exact hb),rfl⟩
    have hk4 : Keeps Wc Wd := by rw [← hWd]; exact keeps_put hlc _
    have hK := ((hk1.trans hk2).trans hk3).trans hk4
    have hblk : ∀ b,b < W.heap.size → ¬ own b → b ≠ l → Wd.heap[b]? = W.heap[b]? := fun b hb ho hne => (hWcd b hne).trans ((hWc b (by omega) ho).trans ((hWab b hne).trans (hWa b hb ho)))
    have eM : Base.M (Base.re (C2.withM M2) τ2 Wd μ2 Fz2 Fy2) = M2 := rfl
    have hsub : ∀ b,own b → M b ∨ W.heap.size ≤ b := fun b hb => by
      rcases (own_in b).1 hb with k | ⟨s,hs,base,hm⟩ | k
      · exact .inr k
      · exact .inl (h4 s hs b base hm).1
      · exact .inl (h2 b k)
    have S6 := Sim.back h3 S5 (M2 := M2) rfl own (fun b hb => (own_in b).1 hb) c2y c2o (fun b hb => hM2.sub b (c2M ▸ hM1.sub b hb)) hM2' live2 z2 yy2 hcb (fun hf => (h5 l hf).2.1 rfl) hos.1 hos.2.1 hos.2.2 (by omega) hdr hK hblk
    have hmk : ∀ b,(∃ d ∈ a.defers,d.target = Target.collected b) → Fyn b := fun b ⟨d,hd,ed⟩ => by
      obtain ⟨D,e1,e2,_⟩ := h3.defers d hd
      rw [ed] at e1
      cases e1; exact e2
    refine ⟨⟨hos.1,hos.2.1,hos.2.2,by omega,hK,fun b hb hM => hblk b hb (fun ho => (hsub b ho).elim hM (fun k => by omega)) (fun ee => hM (ee ▸ hml)),fun b hb => .inl hb,fun b hb => hb.imp id And.left,fun b hb => ?_,hdr⟩,_,S6,?_,fun b hb => ?_,fun s hs b base hm => ⟨?_,ownl b (live2 s hs b base hm)⟩,fun b hb => ?_,fun b hb => ownl b (hM2' b hb),fun Dd e => ?_,fun b hb => ?_,by omega⟩
    · rcases hb with k | k
      · have := hlt b k; omega
      · omega
    · refine ⟨fun b hb => hM2.sub b (c2M ▸ hM1.sub b (h1.sub b hb)),fun b hb => ?_⟩
      rcases hM2.new b hb with k | k
      · rcases hM1' b (c2M ▸ k) with k | k
        · exact h1.new b k
        · exact .inr (Nat.le_trans h3.big k)
      · refine .inr ?_
        rw [c2B] at k
        have : C.B ≤ W.heap.size := h3.big
        omega
    · exact (hsub b (hM2' b hb)).imp id fun k => ⟨k,by have := (S4.fm b hb).1; exact this⟩
    · exact (hsub b (live2 s hs b base hm)).imp id fun k => ⟨k,(S4.live s hs b base hm).2.1⟩
    · rcases hb with hb | hb
      · refine ⟨?_,hne2 b (yy2 b hb)⟩
        rcases yy2 b hb with k | k
        · exact (h5 b k).1.imp id .inl
        · exact .inr ((hsub b k).imp id fun k => ⟨k,S4.yl b hb⟩)
      · exact ⟨(h5 b (hmk b hb)).1.imp id .inl,(h5 b (hmk b hb)).2⟩
    · obtain ⟨k1,k2,k3,k4⟩ := hmd Dd e
      exact ⟨.inl k1,k2,k3,(hblk Dd (hlt Dd k1) (fun ho => (ownl Dd ho).2 e) k2).trans k4⟩
    · rcases hb with k | k
      · have := hlt b k; omega
      · omega
  cases hb : exec G L C.N D m body τ1 with
  | none => rw [hb] at hrd; simp at hrd
  | some p =>
  obtain ⟨e,τ2⟩ := p
  rw [hb] at hrd
  rw [show FR (C.inner My σn a W μn Fzn Fyn l).rd = FR C2.rd from by rw [c2r]; rfl]
  refine hB C2 _ _ _ _ _ _ _ _ _ 0 c2N hY2 S3 hb fun M2 a2 Wc μ2 Fz2 Fy2 hM2 S4 => ?_
  cases e with
  | normal =>
    simp only at hrd
    obtain ⟨hlc,M',k1,k2,Fy3,k3,k4,k5,k6,k7,k8,k9,k10,k11⟩ := key .normal τ2 hb none .ready rfl M2 a2 Wc μ2 Fz2 Fy2 hM2 S4
    have hend := run_endRound (P := G.P) none hlc
    have erec : ({ { rec .ready none with state := LoopState.busy } with state := if (none : Option Code).isNone then LoopState.ready else .done,pending := none } : Loop) = rec .ready none := by rw [hrec]; rfl
    rw [erec] at hend
    refine ⟨_,_,hend,?_,M',⟨⟨M2,μ2,Fz2,Fy3,τ2.leave,k4,k5,k3,k6,k7,k8,.inl ⟨hrd,World.putObj_heap_same (Array.getElem?_eq_some_iff.1 hlc).1⟩⟩,k1 l hml,k9,k10,k11,hcb,hln⟩,k2⟩
    congr 2
    unfold ans
    cases st with
    | none => rfl
    | some i =>
      have := (rounds_idx hrd i rfl).1
      simp; omega
  | exit id =>
    simp only [Option.some.injEq,Prod.mk.injEq] at hrd
    obtain ⟨rfl,rfl,rfl⟩ := hrd
    obtain ⟨hlc,M',k1,k2,Fy3,k3,k4,k5,k6,k7,k8,k9,k10,k11⟩ := key (.exit id) τ2 hb (some (.exit id)) .done rfl M2 a2 Wc μ2 Fz2 Fy2 hM2 S4
    have hend := run_endRound (P := G.P) (some (.exit id)) hlc
    have erec : ({ { rec .ready none with state := LoopState.busy } with state := if (some (Code.exit id)).isNone then LoopState.ready else .done,pending := some (.exit id) } : Loop) = rec .done (some (.exit id)) := by rw [hrec]; rfl
    rw [erec] at hend
    refine ⟨_,_,hend,by simp [ans],M',⟨⟨M2,μ2,Fz2,Fy3,τ2.leave,k4,k5,k3,k6,k7,k8,.inr ⟨n,rfl,rfl,rfl,World.putObj_heap_same (Array.getElem?_eq_some_iff.1 hlc).1⟩⟩,k1 l hml,k9,k10,k11,hcb,hln⟩,k2⟩
  | ret =>
    simp only [Option.some.injEq,Prod.mk.injEq] at hrd
    obtain ⟨rfl,rfl,rfl⟩ := hrd
    obtain ⟨hlc,M',k1,k2,Fy3,k3,k4,k5,k6,k7,k8,k9,k10,k11⟩ := key .ret τ2 hb (some .ret) .done rfl M2 a2 Wc μ2 Fz2 Fy2 hM2 S4
    have hend := run_endRound (P := G.P) (some .ret) hlc
    have erec : ({ { rec .ready none with state := LoopState.busy } with state := if (some Code.ret).isNone then LoopState.ready else .done,pending := some .ret } : Loop) = rec .done (some .ret) := by rw [hrec]; rfl
    rw [erec] at hend
    refine ⟨_,_,hend,by simp [ans],M',⟨⟨M2,μ2,Fz2,Fy3,τ2.leave,k4,k5,k3,k6,k7,k8,.inr ⟨n,rfl,rfl,rfl,World.putObj_heap_same (Array.getElem?_eq_some_iff.1 hlc).1⟩⟩,k1 l hml,k9,k10,k11,hcb,hln⟩,k2⟩
end
theorem enter_run {P:Program} {w:World} {ro:Option Nat} (h:∀ l,ro=some l->∃ r,w.heap[l]? = some (.loop r)) (fn:FuncId) (tmps:Array Value) (psa:Array Tmp) (assign body:Code) :
  ∃ (l:Nat) (Dm:Option Nat) (W1:World) (dfr:Nat),(Instr.enterLoop fn tmps psa assign body ro).run P w = .ok (l,Dm.toList.map fun D=>{ target:=.collected D,args:=#[] }) W1 ∧
   W1.heap[l]? = some (.loop { state:=.ready,pending:=none,fn,tmps,params:=psa,assign,body,defers:=dfr })/\w.heap.size<=l/\Below w.heap.size w W1/\(∀ D,Dm=some D->w.heap.size<=D/\D < W1.heap.size/\D≠l/\W1.heap[D]? = some (.deferred (some [])))/\(ro.isSome=true->Dm=none):=by
 cases ro with
 | none =>
  refine ⟨_,some w.heap.size,_,w.heap.size,run_enterLoop_outer fn tmps psa assign body,?_,by omega,((Below.refl _ w).alloc (Nat.le_refl _) _).alloc (by simp) _,fun D e=>?_,by simp⟩
  ·have:=World.alloc_heap_new (w.alloc (.deferred (some []))) (.loop { state:=.ready,pending:=none,fn,tmps,params:=psa,assign,body,defers:=w.heap.size })
   rwa [World.size_alloc] at this
  ·cases e
   exact ⟨Nat.le_refl _,by simp; omega,by omega,(Below.heap_alloc _ _ _ (by simp)).trans (World.alloc_heap_new w _)⟩
 | some l0 =>
  obtain ⟨r0,hr0⟩:=h l0 rfl
  refine ⟨w.heap.size,none,_,r0.defers,run_enterLoop_inner hr0 fn tmps psa assign body,World.alloc_heap_new w _,Nat.le_refl _,(Below.refl _ w).alloc (Nat.le_refl _) _,by simp,by simp⟩
section
variable {G:Pg} {L:Live} {N:Nat} {D:Drawer} {n:Nat}
theorem Sim.lp_now {C:Base} {σ:St} {a:Act} {w:World} {μ:Mu} {Fz Fy:Nat->Prop} (h:Sim C σ a w μ Fz Fy) (l:Nat) (e:C.rd=some l):∃ r,w.heap[l]? = some (.loop r):=by
 obtain ⟨h1,h2,r,h3⟩:=h.lp l e
 exact ⟨r,(h.below.block l h1 h2).trans h3⟩
theorem range_core {g : Operand} {psa : Array Tmp} {assign body : Code} {C : Base} (hA : Sound G L C.N D n assign) (hB : Sound G L C.N D n body) {τ σ' : St} {e e0 : Ex} {a : Act} {w : World} {μ : Mu} {Fz0 Fy0 H : Nat → Prop} {Q : Exit → Act → World → Prop} {rm : Nat} (hY : YOk G C) (h0 : Sim C τ a w μ Fz0 Fy0)
    (hH : ∀ b,H b → C.mine b) (hH2 : ∀ b,H b → b < w.heap.size ∧ ¬ Fy0 b ∧ ¬ C.M b ∧ ∀ s,lk s τ.blk ≠ none → ∀ base,μ s ≠ some (b,base)) {F : St → Option (Ex × St)} (hF : (fun τ => match exec G L C.N D n assign τ with
            | some (.normal,τ') => exec G L C.N D n body τ'
            | _ => none) = F) {xs : List (List FV)} {st : Option Nat} (hrd : rounds F C.N psa.toList 0 xs τ = some (st,e0,σ')) (hst1 : st = none → e = .normal) (hst2 : ∀ i,st = some i → e = e0) {k : FuncId} {vcaps : Array Value} (hfv : a.eval g = .func (.func k) #[] vcaps) (hE : Enters G.P k)
    (hcall : ∀ (W1 : World) (l : Nat) (M0 : Nat → Prop) (y : Yd),Below w.heap.size w W1 → y.l = l → y.n1 = W1.heap.size → y.H = H → (∀ b,M0 b → b < W1.heap.size ∧ ¬ Fy0 b ∧ ¬ H b) → y.J 0 M0 W1 →
      (∀ (m : Nat) (x : List FV) (M : Nat → Prop) (w : World) (us : List Value),y.J m M w → (upTo st xs)[m]? = some x → us.length = x.length → (∀ (j : Nat) (z : FV),x[j]? = some z → ∃ u,us[j]? = some u ∧ RepF (fun _ => False) w z u) →
        ∃ fn tmps assign body,(Instr.yield y.l us.toArray).run G.P w = .ok (.round y.l fn tmps assign body) w ∧ RoundIn Fence.wide 0 G.P y.l fn tmps assign body w (fun e w' => e = .returned (.bool (ans st m)) ∧ ∃ M',y.J (m + 1) M' w' ∧ Turn M M' w w')) →
      Calls G.P k (Value.func (.yield l) #[] #[] :: vcaps.toList).toArray W1 fun e w' => (∃ v,e = .returned v) ∧ ∃ M',y.J (upTo st xs).length M' w')
    (hQ : ∀ M' a' w' μ' Fz' Fy',More C M' → Sim (C.withM M') σ' a' w' μ' Fz' Fy' → Q e.toExit a' w') : (Code.rangeFunc g psa assign body).wpIn (FR C.rd) rm G.P Q a w := by
  have hidx := rounds_idx hrd
  obtain ⟨fnE,hent⟩ := hE
  refine wpIn_rangeFunc ?_
  intro fn hfn
  obtain ⟨l,Dm,W1,dfr,hen,hl1,hwl,hbel,hD,hDr⟩ := enter_run (P := G.P) (ro := C.rd) (fun l e => h0.lp_now l e) fn a.tmps psa assign body
  have hl1s : l < W1.heap.size := (Array.getElem?_eq_some_iff.1 hl1).1
  obtain ⟨hen1,hen2,hen3⟩ : _ ∧ _ ∧ _ := hent
  obtain ⟨rec,hrec⟩ : ∃ rec : LoopState → Option Code → Loop,rec = fun s pe => { state := s,pending := pe,fn,tmps := a.tmps,params := psa,assign,body,defers := dfr } := ⟨_,rfl⟩
  have hres : (resolve a.eval (rangeCall g l) 0).run G.P W1 = .ok { target := .fn (.func k) vcaps,args := #[.func (.yield l) #[] #[]] } W1 := by
    simp only [resolve,Deferred.ofValue,hfv]
    simp [Act.eval,go_sem]
  have hinv : (invoke (.fn (.func k) vcaps) #[Value.func (.yield l) #[] #[]]).run G.P W1 = .ok (.enter k (Value.func (.yield l) #[] #[] :: vcaps.toList).toArray) W1 := by
    simp only [invoke,callFunc,Sem.run_bind,run_program,Result.andThen_ok,hen1]
    simp [hen2,hen3]
  refine ⟨l,_,W1,_,W1,k,_,W1,hen,hres,fun _ _ => trivial,hinv,fun hd => by simp [FR,Fence.wide] at hd,?_⟩
  refine callsIn_FR.2 ?_
  have hkW : W1.heap.size ≤ W1.heap.size := Nat.le_refl _
  have hcbn : C.B ≤ W1.heap.size := Nat.le_trans h0.big hbel.size
  let y : Yd := { l := l,n1 := W1.heap.size,H := H,J := RJ C a F psa.toList xs st e0 σ' l W1.heap.size H Dm rec,stab := fun m M w w' => RJ.stab hcbn hH m M w w' }
  have h01 := h0.stays (Stays.of_below h0 hbel)
  have hwl' : ∀ b,(b < w.heap.size) → b ≠ l ∧ Dm ≠ some b := fun b hb => ⟨by omega,fun e => by have := (hD b e).1; omega⟩
  refine (hcall W1 l (fun b => (b = l ∨ Dm = some b ∨ (∃ s,lk s τ.blk ≠ none ∧ ∃ base,μ s = some (b,base)) ∨ C.M b)) y hbel rfl rfl rfl (fun b hb => ?_) ?_ ?_).mono ?_
  · rcases hb with rfl | hb | ⟨s,hs,base,hm⟩ | hb
    · exact ⟨hl1s,fun hf => by have := h0.yl _ hf; omega,fun hh => by have := (hH2 _ hh).1; omega⟩
    · exact ⟨(hD b hb).2.1,fun hf => by have := h0.yl _ hf; have := (hD b hb).1; omega,fun hh => by have := (hH2 _ hh).1; have := (hD b hb).1; omega⟩
    · exact ⟨(h01.live s hs b base hm).2.1,(h0.live s hs b base hm).2.2,fun hh => (hH2 _ hh).2.2.2 s hs base hm⟩
    · exact ⟨(h01.fm b hb).1,(h0.fm b hb).2.1,fun hh => (hH2 _ hh).2.2.1 hb⟩
  ·
    refine ⟨⟨C.M,μ,Fz0,Fy0,τ,More.refl C,fun b hb => .inr (.inr (.inr hb)),h01,fun s hs b base hm => ⟨.inr (.inr (.inl ⟨s,hs,base,hm⟩)),hwl' b (h0.live s hs b base hm).2.1⟩,fun b hb => ⟨.inl ⟨h01.yl b hb,fun hh => (hH2 b hh).2.1 hb⟩,hwl' b (h0.yl b hb)⟩,fun b hb => hwl' b (h0.fm b hb).1,.inl ⟨by simpa using hrd,by rw [hl1,hrec]⟩⟩,.inl rfl,fun Dd e => ?_,fun b hb => ?_,Nat.le_refl _,Nat.le_trans h0.big hwl,hl1s⟩
    · obtain ⟨k1,k2,k3,k4⟩ := hD Dd e
      exact ⟨.inr (.inl e),k3,Nat.le_trans h0.big k1,k4⟩
    · rcases hb with rfl | hb | ⟨s,hs,base,hm⟩ | hb
      · exact hl1s
      · exact (hD b hb).2.1
      · exact (h01.live s hs b base hm).2.1
      · exact (h01.fm b hb).1
  · intro m x M W us hJ hx hus hru
    exact round_sound hA hB hY hF.symm rfl hrec (fun y hy => (h0.yd y hy).2.2.1) m x M W us hJ hx hus hru
  ·
    rintro ex W2 ⟨⟨v,rfl⟩,M2,hJ⟩
    have hJ' : RJ C a F psa.toList xs st e0 σ' l W1.heap.size H Dm rec (upTo st xs).length M2 W2 := hJ
    obtain ⟨⟨My,μn,Fzn,Fyn,σn,j1,j2,j3,j4,j5,j6,j7⟩,hml,hmd,hlt,hbig,hcb,hln⟩ := hJ'
    obtain ⟨jump,hl2,hσ,hjump⟩ : ∃ jump : Option Code,W2.heap[l]? = some (.loop (rec (if jump.isNone then .ready else .done) jump)) ∧ σn = σ' ∧ (jump = none ∧ e = .normal ∨ (e ≠ .normal ∧ jump = some e.code)) := by
      cases st with
      | none =>
        rcases j7 with ⟨k1,k2⟩ | ⟨i,k1,_⟩
        · simp only [upTo,List.drop_length,rounds,Option.some.injEq,Prod.mk.injEq] at k1
          exact ⟨none,k2,k1.2.2,.inl ⟨rfl,hst1 rfl⟩⟩
        · cases k1
      | some i =>
        have hi := hidx i rfl
        have hlen : (upTo (some i) xs).length = i + 1 := by rw [upTo,List.length_take]; omega
        rcases j7 with ⟨k1,k2⟩ | ⟨i',k1,k2,k3,k4⟩
        · have := (rounds_idx k1 i rfl).1
          omega
        · exact ⟨some e0.code,k4,k3,.inr ⟨(hst2 i rfl) ▸ hi.2.2,by rw [(hst2 i rfl)]⟩⟩
    subst hσ
    have hend := run_endLoop (P := G.P) hl2 (by rw [hrec]; cases jump <;> simp)
    rw [show (rec (if jump.isNone = true then LoopState.ready else LoopState.done) jump).pending = jump from by rw [hrec]] at hend
    refine ⟨jump,_,hend,?_⟩
    have S1 := j3.putLoop hl2 hcb (fun hf => (j5 l hf).2.1 rfl) (fun s hs base hm => (j4 s hs l base hm).2.1 rfl) (fun hm => (j6 l hm).1 rfl) (.loop { rec (if jump.isNone then .ready else .done) jump with state := .exhausted,pending := jump })
    generalize hW3 : W2.putObj l (.loop { rec (if jump.isNone then .ready else .done) jump with state := .exhausted,pending := jump }) = W3 at S1
    have hD3 : ∀ D,Dm = some D → W3.heap[D]? = some (.deferred (some [])) ∧ D < W3.heap.size := fun Dd e => by
      obtain ⟨k1,k2,k3,k4⟩ := hmd Dd e
      rw [← hW3]
      exact ⟨(World.putObj_heap_other k2).trans k4,by simpa using hlt Dd k1⟩
    have S2 : Sim (C.withM My) σn { a with defers := (Dm.toList.map fun D => { target := .collected D,args := #[] }) ++ a.defers } W3 μn Fzn (fun b => Fyn b ∨ Dm = some b) := by
      have S3 := S1.fix (Fz' := Fzn) (Fy' := fun b => Fyn b ∨ Dm = some b) (fun _ x => x) (fun _ x => .inl x) (fun b hb => .inl (S1.zy b hb)) (fun b hb => hb.elim (S1.yl b) fun e => (hD3 b e).2) S1.z0 (fun b hb => hb.elim (S1.y0 b) fun e => .inr (.inl (hmd b e).2.2.1)) (fun s hs b base hm => fun hb => hb.elim (S1.live s hs b base hm).2.2 fun e => (j4 s hs b base hm).2.2 e) (fun b hb hf => hf.elim (S1.fm b hb).2.1 fun e => (j6 b hb).2 e)
      refine { S3 with defers := fun d hd => ?_,dist := ?_ }
      · rcases List.mem_append.1 hd with hd | hd
        · obtain ⟨Dd,hDd,rfl⟩ := List.mem_map.1 hd
          have e : Dm = some Dd := by simpa using hDd
          exact ⟨Dd,rfl,.inr e,fun _ => .inl (hmd Dd e).2.2.1,(hD3 Dd e).1⟩
        · exact S3.defers d hd
      · refine List.pairwise_append.2 ⟨?_,S3.dist,fun d1 hd1 d2 hd2 => ?_⟩
        · cases Dm <;> simp
        · obtain ⟨Dd,hDd,rfl⟩ := List.mem_map.1 hd1
          have e : Dm = some Dd := by simpa using hDd
          obtain ⟨D2,k1,k2,_⟩ := j3.defers d2 hd2
          rw [k1]
          intro ee
          cases ee
          exact (j5 Dd k2).2.2 e
    have hq := hQ My _ _ _ _ _ j1 S2
    rcases hjump with ⟨rfl,rfl⟩ | ⟨hne,rfl⟩
    · exact hq
    · cases e with
      | normal => exact absurd rfl hne
      | exit id => exact wpIn_exit hq
      | ret => exact wpIn_ret hq
theorem range_sound (hC : CtxOk G) {g : Operand} {psa : Array Tmp} {assign body : Code} (hA : Sound G L N D n assign) (hB : Sound G L N D n body) : Sound G L N D n (.rangeFunc g psa assign body) := by
  intro C σ σ' e a w μ Fz Fy Q rm hN hY h hr hQ
  subst hN
  simp only [exec] at hr
  split at hr
  rotate_left
  · simp at hr
  rename_i f hf
  split at hr
  rotate_left
  · simp at hr
  rename_i ns ro k caps hfz
  have hv := opd_sound h hf
  obtain ⟨hns,hrep⟩ := frz_sound h 6 hfz hv
  split at hr
  · rename_i xs hit
    generalize hF : (fun τ => match exec G L C.N D n assign τ with
              | some (.normal,τ') => exec G L C.N D n body τ'
              | _ => none) = F at hr
    have h0 := h.freezes hns
    obtain ⟨st,e0,hrd,hst1,hst2⟩ : ∃ st e0,rounds F C.N psa.toList 0 xs (frees σ ns) = some (st,e0,σ') ∧ (st = none → e = .normal) ∧ (∀ i,st = some i → e = e0 ∧ G.its k (caps.map fun c => (ro,c)) i = true) := by
      split at hr
      · rename_i e1 σ1 h1
        simp only [Option.some.injEq,Prod.mk.injEq] at hr
        obtain ⟨rfl,rfl⟩ := hr
        exact ⟨none,e1,h1,fun _ => rfl,fun i hi => by cases hi⟩
      · rename_i i e1 σ1 h1
        split at hr
        · rename_i hts
          simp only [Option.some.injEq,Prod.mk.injEq] at hr
          obtain ⟨rfl,rfl⟩ := hr
          exact ⟨some i,e1,h1,by simp,fun j hj => by cases hj; exact ⟨rfl,hts⟩⟩
        · simp at hr
      · simp at hr
    have hidx := rounds_idx hrd
    have e1 : Of μ (roF Fz Fy ro) ns = roF (Of μ Fz ns) (Of μ Fy ns) ro := by cases ro <;> rfl
    rw [e1] at hrep
    generalize hfv : a.eval g = vf at hrep hv
    cases hrep with
    | fn _ _ _ vfirst vcaps hs1 hs2 hr1 hr2 =>
    have ef : vfirst = #[] := Array.eq_empty_of_size_eq_zero (by simpa using hs1)
    subst ef
    have hitok : ItOK G.P k (caps.map fun c => (ro,c)) (upTo st xs) st := by
      cases st with
      | none => exact (hC.i k _ xs hit).1
      | some i => exact hC.t k _ xs i hit (hst2 i rfl).2 (by have := (hidx i rfl).2.1; omega)
    refine range_core hA hB hY h0 (H := fun _ => False) (fun _ x => x.elim) (fun _ x => x.elim) hF hrd hst1 (fun i hi => (hst2 i hi).1) hfv (hC.i k _ xs hit).2 (fun W1 l M0 y hbel hyl hyn hyH hM0 hJ hround => ?_) hQ
    have h01 := h0.stays (Stays.of_below h0 hbel)
    rw [← hyl]
    refine hitok W1 (Of μ Fz ns) (Of μ Fy ns) M0 vcaps.toList y h0.zy (fun b hb => h01.yl b hb) (by simpa using hs2) (fun j p hj => ?_) h01.gl hyn (fun b hb => ⟨(hM0 b hb).1,(hM0 b hb).2.1⟩) hJ hround
    simp only [List.getElem?_map,Option.map_eq_some_iff] at hj
    obtain ⟨c,hc,rfl⟩ := hj
    have hjl : j < vcaps.size := by rw [hs2]; exact (List.getElem?_eq_some_iff.1 hc).1
    have := hr2 j c hc
    rw [Array.getD_eq_getD_getElem?,Array.getElem?_eq_getElem hjl] at this
    refine ⟨vcaps[j],by simp [hjl],this.mono (fun _ x => x) fun b hb => hbel.block b ?_⟩
    cases ro with
    | false => exact h0.yl b (h0.zy b hb)
    | true => exact h0.yl b hb
  · split at hr
    rotate_left
    · simp at hr
    rename_i k' bs caps' hho
    split at hr
    rotate_left
    · simp at hr
    rename_i xs hit
    generalize hF : (fun τ => match exec G L C.N D n assign τ with
              | some (.normal,τ') => exec G L C.N D n body τ'
              | _ => none) = F at hr
    obtain ⟨e0,hrd,hen⟩ : ∃ e0,rounds F C.N psa.toList 0 xs (frees σ ns) = some (none,e0,σ') ∧ e = .normal := by
      split at hr
      · rename_i e1 σ1 h1
        simp only [Option.some.injEq,Prod.mk.injEq] at hr
        obtain ⟨rfl,rfl⟩ := hr
        exact ⟨e1,h1,rfl⟩
      · simp at hr
    subst hen
    unfold handO at hho
    split at hho
    rotate_left
    · cases hho
    rename_i k2 caps2 hfn
    simp only at hho
    split at hho
    rotate_left
    · cases hho
    rename_i hyf
    simp only [Option.some.injEq,Prod.mk.injEq] at hho
    obtain ⟨rfl,rfl,rfl⟩ := hho
    generalize hτ : ({ env := [],blk := kpIf (memN · ns) σ.blk,tr := σ.tr } : St) = τ at hyf hit
    have htb : ∀ s b,lk s τ.blk = some b → lk s σ.blk = some b := fun s b hs => by rw [← hτ] at hs; exact lk_kpIf hs
    have htm : ∀ s,lk s τ.blk ≠ none → s ∈ ns := fun s hs => by
      rw [← hτ] at hs
      cases hq : lk s (kpIf (memN · ns) σ.blk) with
      | none => exact absurd hq hs
      | some b => exact memN_mem (lk_kpIf_p hq)
    have htn : ∀ s,lk s τ.blk ≠ none → lk s σ.blk ≠ none := fun s hs => by
      cases hq : lk s τ.blk with
      | none => exact absurd hq hs
      | some b => simp [htb s b hq]
    have hsub : Sim C τ a w μ Fz Fy := h.sub (fun k v hk => by rw [← hτ] at hk; simp [lk] at hk) htb (by rw [← hτ])
    have hshs : ∀ t,¬ (fun _ : Nat => False) t → shs τ t = none ∨ (shs τ t = shs σ t ∧ μ t = μ t) := fun t _ => by
      cases hq : lk t τ.blk with
      | none => left; simp [shs,hq]
      | some b => right; simp [shs,hq,htb t b hq]
    obtain ⟨μ1,hm1,hrep1,hwho⟩ := hsub.mapN fup_inj fup_YN
    obtain ⟨vf,vc,hve,hcf,hcc⟩ := fnOf_sound hfn hv
    have hvf0 : vf = #[] := Array.eq_empty_of_size_eq_zero (by simpa using hcf.1)
    subst hvf0
    have h0 : Sim C (frees σ ns) a w μ Fz Fy := Sim.frees h
    have hfree : ∀ t,lk t (frees σ ns).blk ≠ none → t ∉ ns ∧ lk t σ.blk ≠ none := fun t ht => by
      rw [blk_frees] at ht
      split at ht
      · exact absurd rfl ht
      · exact ⟨‹_›,ht⟩
    have hH0 : ∀ b,(∃ s,lk s τ.blk ≠ none ∧ ∃ base,μ s = some (b,base)) → C.mine b ∧ b < w.heap.size ∧ ¬ Fy b ∧ ¬ C.M b ∧ ∀ s,lk s (frees σ ns).blk ≠ none → ∀ base,μ s ≠ some (b,base) := fun b ⟨s,hs,base,hm⟩ => by
      obtain ⟨q1,q2,q3⟩ := h.live s (htn s hs) b base hm
      refine ⟨q1,q2,q3,fun hM => (h.fm b hM).2.2 s (htn s hs) base hm,fun t ht base' hm' => ?_⟩
      obtain ⟨t1,t2⟩ := hfree t ht
      exact h.inj t s t2 (htn s hs) (fun e => t1 (e ▸ htm s hs)) b base' b base hm' hm rfl
    refine range_core hA hB hY h0 (H := fun b => ∃ s,lk s τ.blk ≠ none ∧ ∃ base,μ s = some (b,base)) (fun b hb => (hH0 b hb).1) (fun b hb => (hH0 b hb).2) hF hrd (fun _ => rfl) (fun i hi => by cases hi) hve (hC.h _ _ _ xs hit).2 (fun W1 l M0 y hbel hyl hyn hyH hM0 hJ hround => ?_) hQ
    have h01 := hm1.stays (Stays.of_below hm1 hbel)
    have hblk0 : lk YN (τ.mapN fup).blk = none := by
      cases hq : lk YN (τ.mapN fup).blk with
      | none => rfl
      | some b =>
        obtain ⟨s,_,hs,_⟩ := hwho YN (by simp [hq])
        exact absurd hs (fup_YN s)
    have hsY : shs (τ.mapN fup) YN = none := by simp [shs,hblk0]
    have hμ1 : ∀ s,s ≠ YN → setMu μ1 YN (some (l,0)) s = μ1 s := fun s hs => by simp [setMu,hs]
    rw [← hyl]
    refine (hC.h _ _ _ xs hit).1 W1 Fz Fy M0 (setMu μ1 YN (some (l,0))) vc.toList y h.zy h01.yl (by simp [setMu,hyl]) hblk0 (by simpa using hcc.1) (fun j p hj => ?_) (fun s b hb => ?_) (fun s hs b base hm => ?_) (fun s t hs ht hst b base b' base' hm hm' => ?_) h01.gl hyn (fun b hb => ⟨(hM0 b hb).1,(hM0 b hb).2.1⟩) hJ hround
    · simp only [List.getElem?_map,Option.map_eq_some_iff] at hj
      obtain ⟨c,hc,rfl⟩ := hj
      have hjl : j < vc.size := by rw [hcc.1]; exact (List.getElem?_eq_some_iff.1 hc).1
      have h1 := hcc.2 j c hc
      rw [Array.getD_eq_getD_getElem?,Array.getElem?_eq_getElem hjl] at h1
      refine ⟨vc[j],by simp [hjl],?_⟩
      have h2 : RepV μ (shs τ) Fz Fy w c vc[j] := h1.mono (fun _ x => x) (fun _ x => x) (fun _ _ => rfl) (fun _ _ => rfl) (Keeps.refl w) (fun _ => False) hshs (fun _ x => x) (fun _ x => x.elim)
      have h3 := hrep1 6 _ _ h2
      have hyc : yfree 6 (mapV (onLive τ fup) 6 c) = true := yfree_mapV 6 6 (by have := hyf.1; rw [List.all_eq_true] at this; exact this c (List.mem_of_getElem? hc))
      have h4 := yfree_rep hμ1 hsY 6 hyc h3
      exact h4.mono (fun _ x => x) (fun _ x => x) (fun b hb => hbel.block b (h.yl b (h.zy b hb))) (fun b hb => hbel.block b (h.yl b hb)) (Keeps.of_below hbel) (fun _ => False) (fun _ _ => .inr ⟨rfl,rfl⟩) (fun _ x => x) (fun _ x => x.elim)
    · have hsne : s ≠ YN := fun e => by rw [e,hblk0] at hb; cases hb
      refine yfree_repB hμ1 hsY hsne ?_ (h01.blk s b hb)
      obtain ⟨s0,hs0,hfs,_⟩ := hwho s (by simp [hb])
      have hbb : lk s (τ.mapN fup).blk = (lk s0 τ.blk).map (mapB (onLive τ fup)) := lk_mapBlk fup_inj hfs
      rw [hbb,Option.map_eq_some_iff] at hb
      obtain ⟨b0,hb0,rfl⟩ := hb
      have hall : (τ.blk.all fun e => (bcells e.2).all (yfree 6)) = true := by rw [← hτ]; exact hyf.2
      rw [List.all_eq_true] at hall
      have h5 := hall _ (lk_mem' hb0)
      rw [List.all_eq_true] at h5 ⊢
      intro y hy
      rw [mapB,bcells_bmapB] at hy
      obtain ⟨y0,hy0,rfl⟩ := List.mem_map.1 hy
      exact yfree_mapV 6 6 (h5 y0 hy0)
    · have hsne : s ≠ YN := fun e => by rw [e] at hs; exact hs hblk0
      rw [hμ1 s hsne] at hm
      obtain ⟨s0,hs0,hfs,he⟩ := hwho s hs
      rw [he] at hm
      have hHb : ∃ s,lk s τ.blk ≠ none ∧ ∃ base,μ s = some (b,base) := ⟨s0,hs0,base,hm⟩
      refine ⟨by rw [hyH]; exact hHb,Nat.lt_of_lt_of_le (hH0 b hHb).2.1 hbel.size,(hH0 b hHb).2.2.1,fun hM => (hM0 b hM).2.2 hHb⟩
    · have hsne : s ≠ YN := fun e => by rw [e] at hs; exact hs hblk0
      have htne : t ≠ YN := fun e => by rw [e] at ht; exact ht hblk0
      rw [hμ1 s hsne] at hm
      rw [hμ1 t htne] at hm'
      exact hm1.inj s t hs ht hst b base b' base' hm hm'
def DrawOk (G:Pg) (N:Nat) (D:Drawer):Prop :=
 ∀ (C:Base) (ro:Option Nat) (rm:Nat) (ops:Array Oper) (id:Nat) (σ σ':St) (a:Act) (w:World) (μ:Mu) (Fz Fy:Nat->Prop) (Q:Exit->Act->World->Prop),C.N=N->YOk G C->D id ops.toList σ=some σ'->Sim C σ a w μ Fz Fy ->
  (∀ M' a' w' μ' Fz' Fy',More C M'->Sim (C.withM M') σ' a' w' μ' Fz' Fy'->Q .normal a' w')->(Code.region id ops true).wpIn (FR ro) rm G.P Q a w
theorem exec_sound (hT:TOk G) (hC:CtxOk G) (hD:DrawOk G N D):∀ (c:Code),Sound G L N D n c:=by
 intro c
 induction c with
 | skip =>
  intro C σ σ' e a w μ Fz Fy Q rm hN hY h hr hQ
  simp only [exec,Option.some.injEq,Prod.mk.injEq] at hr
  obtain ⟨rfl,rfl⟩:=hr
  exact wpIn_skip (hQ C.M _ _ _ _ _ (More.refl C) h)
 | region id ops draw =>
  intro C σ σ' e a w μ Fz Fy Q rm hN hY h hr hQ
  subst hN
  simp only [exec] at hr
  split at hr
  ·rename_i σ1 h1
   simp only [Option.some.injEq,Prod.mk.injEq] at hr
   obtain ⟨rfl,rfl⟩:=hr
   cases draw with
   | false =>
    simp only [Bool.false_eq_true,if_false] at h1
    exact wpIn_region_list (runOps_sound hT hC _ hY h h1 fun M' a' w' μ' Fz' Fy' hM h'=>hQ M' _ _ _ _ _ hM (h'.fin (kof L id)))
   | true =>
    simp only [if_true] at h1
    exact hD C C.rd rm ops id σ σ1 a w μ Fz Fy Q rfl hY h1 h fun M' a' w' μ' Fz' Fy' hM h'=>hQ M' _ _ _ _ _ hM (h'.fin (kof L id))
  ·simp at hr
 | seq x y ihx ihy =>
  intro C σ σ' e a w μ Fz Fy Q rm hN hY h hr hQ
  simp only [exec] at hr
  split at hr
  ·rename_i σ1 h1
   exact wpIn_seq (ihx C _ _ _ _ _ _ _ _ _ rm hN hY h h1 fun M' a' w' μ' Fz' Fy' hM h'=>ihy (C.withM M') _ _ _ _ _ _ _ _ _ rm hN (hY.withM M') h' hr fun M'' a' w' μ' Fz' Fy' hM' h'=>hQ M'' _ _ _ _ _ (hM.trans hM') h')
  ·rename_i h1
   have hne:e≠.normal:=fun he=>by subst he; exact h1 _ hr
   refine wpIn_seq (ihx C _ _ _ _ _ _ _ _ _ rm hN hY h hr fun M' a' w' μ' Fz' Fy' hM h'=>?_)
   have:=hQ M' _ _ _ _ _ hM h'
   cases e with
   | normal=>exact absurd rfl hne
   | exit id=>exact this
   | ret=>exact this
 | cond c x y ihx ihy =>
  intro C σ σ' e a w μ Fz Fy Q rm hN hY h hr hQ
  simp only [exec] at hr
  split at hr
  ·rename_i q b hb
   have hv:=opd_sound h hb
   have hc:a.eval c = .bool b:=by
    generalize a.eval c=u at hv ⊢
    cases hv with
    | fv _ _ _ hv=>cases hv; rfl
   cases b with
   | true=>exact wpIn_cond_true hc (ihx C _ _ _ _ _ _ _ _ _ rm hN hY h (by simpa using hr) hQ)
   | false=>exact wpIn_cond_false hc (ihy C _ _ _ _ _ _ _ _ _ rm hN hY h (by simpa using hr) hQ)
  ·simp at hr
 | block id c ih =>
  intro C σ σ' e a w μ Fz Fy Q rm hN hY h hr hQ
  simp only [exec] at hr
  split at hr
  ·rename_i j σ1 h1
   refine wpIn_block (ih C _ _ _ _ _ _ _ _ _ rm hN hY h h1 fun M' a' w' μ' Fz' Fy' hM h'=>?_)
   split at hr
   ·rename_i hj
    simp only [Option.some.injEq,Prod.mk.injEq] at hr
    obtain ⟨rfl,rfl⟩:=hr
    simp only [Ex.toExit,Exit.inBlock,hj,if_true]
    exact hQ M' _ _ _ _ _ hM h'
   ·rename_i hj
    simp only [Option.some.injEq,Prod.mk.injEq] at hr
    obtain ⟨rfl,rfl⟩:=hr
    simp only [Ex.toExit,Exit.inBlock,hj,if_false]
    exact hQ M' _ _ _ _ _ hM h'
  ·rename_i h1
   refine wpIn_block (ih C _ _ _ _ _ _ _ _ _ rm hN hY h hr fun M' a' w' μ' Fz' Fy' hM h'=>?_)
   have:=hQ M' _ _ _ _ _ hM h'
   cases e with
   | normal=>exact this
   | exit j=>exact absurd hr (h1 j σ')
   | ret=>exact this
 | loop c ih =>
  intro C σ σ' e a w μ Fz Fy Q rm hN hY h hr hQ
  simp only [exec] at hr
  refine wpIn_loop_rounds n ?_
  have key:∀ m,∀ {C':Base} {σ:St} {a:Act} {w:World} {μ:Mu} {Fz Fy:Nat->Prop},C'.rd=C.rd->C'.N=N->YOk G C'->(∀ M' a' w' μ' Fz' Fy',More C' M'->Sim (C'.withM M') σ' a' w' μ' Fz' Fy'->Q e.toExit a' w')->Sim C' σ a w μ Fz Fy->iter (exec G L N D n c) m σ=some (e,σ')->Code.roundsIn (FR C.rd) rm G.P c Q m a w:=by
   intro m
   induction m with
   | zero=>intro C' σ a w μ Fz Fy _ _ _ _ _ hi; simp [iter] at hi
   | succ m ihm =>
    intro C' σ a w μ Fz Fy e1 e2 hY' hQ' h hi
    simp only [iter] at hi
    rw [roundsIn_succ]
    rw [<-e1]
    split at hi
    ·rename_i σ1 h1
     refine ih C' _ _ _ _ _ _ _ _ _ rm e2 hY' h h1 fun M' a' w' μ' Fz' Fy' hM h'=>?_
     show Code.roundsIn (FR C'.rd) rm G.P c Q m a' w'
     rw [e1]
     exact ihm (C':=C'.withM M') e1 e2 (hY'.withM M') (fun M'' a' w' μ' Fz' Fy' hM' h'=>hQ' M'' _ _ _ _ _ (hM.trans hM') h') h' hi
    ·rename_i h1
     have hne:e≠.normal:=fun he=>by subst he; exact h1 _ hi
     refine ih C' _ _ _ _ _ _ _ _ _ rm e2 hY' h hi fun M' a' w' μ' Fz' Fy' hM h'=>?_
     have:=hQ' M' _ _ _ _ _ hM h'
     cases e with
     | normal=>exact absurd rfl hne
     | exit id=>exact this
     | ret=>exact this
  exact key n rfl hN hY hQ h hr
 | exit id =>
  intro C σ σ' e a w μ Fz Fy Q rm hN hY h hr hQ
  simp only [exec,Option.some.injEq,Prod.mk.injEq] at hr
  obtain ⟨rfl,rfl⟩:=hr
  exact wpIn_exit (hQ C.M _ _ _ _ _ (More.refl C) h)
 | ret =>
  intro C σ σ' e a w μ Fz Fy Q rm hN hY h hr hQ
  simp only [exec,Option.some.injEq,Prod.mk.injEq] at hr
  obtain ⟨rfl,rfl⟩:=hr
  exact wpIn_ret (hQ C.M _ _ _ _ _ (More.refl C) h)
 | scope c ih =>
  intro C σ σ' e a w μ Fz Fy Q rm hN hY h hr hQ
  simp only [exec] at hr
  refine wpIn_scope_straight (ih C _ _ _ _ _ _ _ _ _ rm hN hY h hr fun M' a' w' μ' Fz' Fy' hM h'=>?_)
  have:=hQ M' _ _ _ _ _ hM h'
  cases e<;>exact this
 | label l =>
  intro C σ σ' e a w μ Fz Fy Q rm hN hY h hr hQ
  simp only [exec,Option.some.injEq,Prod.mk.injEq] at hr
  obtain ⟨rfl,rfl⟩:=hr
  exact wpIn_label (hQ C.M _ _ _ _ _ (More.refl C) h)
 | rangeFunc g psa assign body ihA ihB=>exact range_sound hC ihA ihB
 | _=>intro C σ σ' e a w μ Fz Fy Q rm hN hY h hr hQ; simp [exec] at hr
end
def initEnv:Nat->List (Bool×FV)->List (Nat×V)
 | _,[]=>[]
 | k,(ro,x) :: r=>(k,.fv ro x) :: initEnv (k+1) r
def initSt (args:List (Bool×FV)):St:={ env:=initEnv 0 args,blk:=[] }
theorem lk_initEnv:∀ (args:List (Bool×FV)) (k j:Nat),lk j (initEnv k args)=if k<=j then (args[j-k]?).map fun p=>.fv p.1 p.2 else none
 | [],k,j=>by simp [initEnv,lk]
 | (ro,x) :: r,k,j=>by
  simp only [initEnv,lk]
  by_cases h:j=k
  ·subst h; simp
  ·rw [if_neg h,lk_initEnv r (k+1) j]
   by_cases h2:k<=j
   ·rw [if_pos h2,if_pos (by omega)]
    obtain ⟨m,hm⟩:∃ m,j-k=m+1:=⟨j-k-1,by omega⟩
    rw [hm,show j-(k+1)=m from by omega]
    simp
   ·rw [if_neg h2,if_neg (by omega)]
def ownR (σ:St) (taken:List Nat):V->Option (List Nat×TV)
 | .own s off len=>match lk s σ.blk with
  | some (.arr sz xs)=>if off=0/\len=xs.length/\taken.contains s=false then some ([s],.us sz xs) else none
  | _=>none
 | _=>none
def retA (σ:St) (taken:List Nat) (v:V):Option (List Nat×TV) :=
 match ownR σ taken v with
 | some r=>some r
 | none=>match frz σ 6 v with
  | some (ns,ro,x)=>if (ro&&!flat x)||ns.any (fun s=>taken.contains s) then none else some (ns,.fv x)
  | none=>none
def retsA (σ:St):List Nat->List V->Option (List TV)
 | _,[]=>some []
 | taken,v :: r=>match retA σ taken v with
  | some (ns,x)=>match retsA σ (ns++taken) r with
   | some xs=>some (x :: xs)
   | none=>none
  | none=>none
def slotsA (G:Pg) (σ:St):List ResultVar->Option (List V)
 | []=>some []
 | .tmp t :: r=>match opd σ (.tmp t),slotsA G σ r with
  | some v,some vs=>some (v :: vs)
  | _,_=>none
 | .cell c t :: r=>match opd σ (.tmp c) with
  | some p=>match loadA G σ t p,slotsA G σ r with
   | some v,some vs=>some (v :: vs)
   | _,_=>none
  | none=>none
section
variable {C:Base} {G:Pg}
def resF (tmps:Array Value) (r:ResultVar):Sem Value :=
 match r with
 | .tmp t=>pure (tmps.getD t undef)
 | .cell a t=>do loadVar t (<-asAddr (tmps.getD a undef))
theorem results_eq (fn:Func) (tmps:Array Value):results fn tmps=(do
  let vs <-fn.results.mapM (resF tmps)
  pure (if h:vs.size=1 then vs[0] else .tuple vs)):=by
 unfold results
 congr 1
structure Shut (own:Nat->Prop) (w w':World):Prop where
 os:w'.os=w.os
 tape:w'.tape=w.tape
 output:w'.output=w.output
 drawn:w'.drawn=w.drawn
 size:w'.heap.size=w.heap.size
 cell:∀ a,w'.cell? a=w.cell? a
 blk:∀ b,w'.heap[b]? = w.heap[b]?\/(own b/\∃ ds,w.heap[b]? = some (.deferred ds))
theorem Shut.refl (own:Nat->Prop) (w:World):Shut own w w:=⟨rfl,rfl,rfl,rfl,rfl,fun _=>rfl,fun _=>.inl rfl⟩
theorem leaves_marks {P:Program} {F:Fence} {n:Nat} {fn:Func} {tmps:Array Value} {R:Ending->World->Prop} {own:Nat->Prop}:∀ (ds:List Deferred) (w:World),(∀ d∈ds,∃ D,d.target = .collected D/\own D/\w.heap[D]? = some (.deferred (some []))) ->
  ds.Pairwise (fun d e=>d.target≠e.target)->(∀ w',Shut own w w'->LeavesIn F n P fn tmps R [] .returning w')->LeavesInM F n P fn tmps R ds .returning w
 | [],w,_,_,h=>h w (Shut.refl own w)
 | d :: ds,w,hm,hp,h=>by
  obtain ⟨D,e1,e2,e3⟩:=hm d (by simp)
  have hp':=List.pairwise_cons.1 hp
  have hne:∀ b,b≠D->(w.putObj D (.deferred none)).heap[b]? = w.heap[b]?:=fun b hb=>World.putObj_heap_other hb
  have hlt:D < w.heap.size:=(Array.getElem?_eq_some_iff.1 e3).1
  have hs:(w.putObj D (.deferred none)).heap[D]? = some (.deferred none):=World.putObj_heap_same hlt
  refine ⟨by simp,.inl ⟨D,_,e1,run_takeDeferred e3,leaves_marks (own:=own) ds _ (fun d' hd'=>?_) hp'.2 fun w' hw'=>h w' ?_⟩⟩
  ·obtain ⟨D',k1,k2,k3⟩:=hm d' (by simp [hd'])
   refine ⟨D',k1,k2,(hne D' fun e=>?_).trans k3⟩
   exact hp'.1 d' hd' (by rw [e1,k1,e])
  ·refine ⟨hw'.os,hw'.tape,hw'.output,hw'.drawn,hw'.size.trans (by simp),fun a=>(hw'.cell a).trans ?_,fun b=>?_⟩
   ·by_cases e:a.block=D
    ·simp [World.cell?,e,hs,e3]
    ·simp [World.cell?,hne _ e]
   ·by_cases e:b=D
    ·subst e; exact .inr ⟨e2,_,e3⟩
    ·rcases hw'.blk b with k | ⟨k1,ds',k2⟩
     ·exact .inl (k.trans (hne b e))
     ·exact .inr ⟨k1,ds',(hne b e).symm.trans k2⟩
theorem loadVar_sound (hT:TOk G) {σ:St} {a:Act} {w:World} {μ:Mu} {Fz Fy:Nat->Prop} (h:Sim C σ a w μ Fz Fy) {t:Nat} {p r:V} (hl:loadA G σ t p=some r) {v:Value} (hv:RepV μ (shs σ) Fz Fy w p v) :
  ∃ ad u,v = .pointer (some ad)/\RepV μ (shs σ) Fz Fy w r u/\∀ w',(∀ a,w'.cell? a=w.cell? a)->(loadVar t ad).run G.P w' = .ok u w':=by
 unfold loadA at hl
 split at hl
 ·rename_i ti hti
  split at hl
  ·rename_i cs hcs
   obtain ⟨hlen,ad,rfl,hsp,hcell⟩:=look_sound h hcs hv
   refine ⟨ad,?_⟩
   split at hl
   ·rename_i hag
    simp only [Option.some.injEq] at hl; subst hl
    have hx:∀ j,j < ti.size->∃ u,w.cell? (ad.add j)=some u/\∀ y,cs[j]? = some y->RepV μ (shs σ) Fz Fy w y u:=fun j hj=>by
     have hj':j < cs.length:=by omega
     obtain ⟨u,h1,h2⟩:=hcell j cs[j] (List.getElem?_eq_getElem hj')
     refine ⟨u,by rw [add_zero' ad hsp]; exact h1,fun y hy=>?_⟩
     rw [List.getElem?_eq_getElem hj'] at hy
     simp only [Option.some.injEq] at hy; subst hy; exact h2
    obtain ⟨f,hf⟩:∃ f:Nat->Value,∀ j,j < ti.size->w.cell? (ad.add j)=some (f j)/\∀ y,cs[j]? = some y->RepV μ (shs σ) Fz Fy w y (f j) :=
     ⟨fun j=>if hj:j < ti.size then (hx j hj).choose else undef,fun j hj=>by simpa [hj] using (hx j hj).choose_spec⟩
    refine ⟨_,rfl,mkAgg_sound h.zy ((List.range ti.size).map f).toArray (by simp [hlen]) fun j y hj=>?_,fun w' hw=>?_⟩
    ·have hj':j < ti.size:=by rw [<-hlen]; exact (List.getElem?_eq_some_iff.1 hj).1
     have e:(((List.range ti.size).map f).toArray.getD j undef)=f j:=by simp [Array.getD_eq_getD_getElem?,hj']
     rw [e]; exact (hf j hj').2 y hj
    ·simp only [loadVar,Sem.run_bind,Result.andThen_ok,run_isAgg' hT hti,hag,if_true,run_sizeOf' hT hti,run_loadCells' f ad w' ti.size (fun j hj=>(hw _).trans (hf j hj).1),Sem.run_pure]
   ·rename_i hag
    split at hl
    ·rename_i c
     simp only [Option.some.injEq] at hl; subst hl
     obtain ⟨u,h1,h2⟩:=hcell 0 c rfl
     have h1':w.cell? ad=some u:=by cases ad; simp_all
     have hag':ti.kind.agg=false:=by simpa using hag
     exact ⟨u,rfl,h2,fun w' hw=>by simp only [loadVar,Sem.run_bind,Result.andThen_ok,run_isAgg' hT hti,hag',Bool.false_eq_true,if_false,run_load,(hw ad).trans h1']⟩
    ·simp at hl
  ·simp at hl
 ·simp at hl
theorem slotsA_sound (hT:TOk G) {σ:St} {a:Act} {w:World} {μ:Mu} {Fz Fy:Nat->Prop} (h:Sim C σ a w μ Fz Fy):∀ {rs:List ResultVar} {vs:List V},slotsA G σ rs=some vs ->
  ∃ us:List Value,us.length=vs.length/\(∀ w',(∀ a,w'.cell? a=w.cell? a)->(rs.mapM (resF a.tmps)).run G.P w' = .ok us w')/\∀ (j:Nat) (y:V),vs[j]? = some y->∃ u,us[j]? = some u/\RepV μ (shs σ) Fz Fy w y u
 | [],vs,hs=>by
  simp only [slotsA,Option.some.injEq] at hs; subst hs
  exact ⟨[],rfl,fun _ _=>by simp,by simp⟩
 | .tmp t :: r,vs,hs=>by
  simp only [slotsA] at hs
  split at hs
  ·rename_i v vs' h1 h2
   simp only [Option.some.injEq] at hs; subst hs
   obtain ⟨us,k2,k1,k3⟩:=slotsA_sound hT h h2
   refine ⟨a.tmps.getD t undef :: us,by simp [k2],fun w' hw=>?_,fun j y hj=>?_⟩
   ·simp only [List.mapM_cons,Sem.run_bind,resF,Sem.run_pure,Result.andThen_ok,k1 w' hw]
   ·cases j with
    | zero=>simp only [List.getElem?_cons_zero,Option.some.injEq] at hj; subst hj; exact ⟨_,rfl,opd_sound h h1⟩
    | succ j=>simpa using k3 j y (by simpa using hj)
  ·simp at hs
 | .cell c t :: r,vs,hs=>by
  simp only [slotsA] at hs
  split at hs
  ·rename_i p hp
   split at hs
   ·rename_i v vs' h1 h2
    simp only [Option.some.injEq] at hs; subst hs
    obtain ⟨us,k2,k1,k3⟩:=slotsA_sound hT h h2
    have hpv:=opd_sound h hp
    obtain ⟨ad,u,e1,hru,hrun⟩:=loadVar_sound hT h h1 hpv
    refine ⟨u :: us,by simp [k2],fun w' hw=>?_,fun j y hj=>?_⟩
    ·have e3:a.tmps.getD c undef = .pointer (some ad):=e1
     simp only [List.mapM_cons,Sem.run_bind,resF,e3,asAddr,Sem.run_pure,Result.andThen_ok,hrun w' hw,k1 w' hw]
    ·cases j with
     | zero=>simp only [List.getElem?_cons_zero,Option.some.injEq] at hj; subst hj; exact ⟨_,rfl,hru⟩
     | succ j=>simpa using k3 j y (by simpa using hj)
   ·simp at hs
  ·simp at hs
theorem RepF.cells_mono {Fz Fz':Nat->Prop} {w w':World} (hf:∀ b,Fz b->Fz' b) (hcell:∀ a,w'.cell? a=w.cell? a) {x:FV} {v:Value} (h:RepF Fz w x v):RepF Fz' w' x v:=by
 induction h with
 | int k n=>exact .int k n
 | bool b=>exact .bool b
 | str s=>exact .str s
 | nilfn=>exact .nilfn
 | nilpt=>exact .nilpt
 | nilif=>exact .nilif
 | nilmp=>exact .nilmp
 | top v h=>exact .top v h
 | sl0 clip sz a cap hc=>exact .sl0 clip sz a cap hc
 | sl clip sz xs b o len cap us hlen hcap hclip hb hsz hc hr ih=>exact .sl clip sz xs b o len cap us hlen hcap hclip (hf b hb) hsz (fun i x j y h1 h2=>(hcell _).trans (hc i x j y h1 h2)) ih
 | pt cells off b o us hb hc hr ih=>exact .pt cells off b o us (hf b hb) (fun j y h1=>(hcell _).trans (hc j y h1)) ih
 | agg cells vs hs hr ih=>exact .agg cells vs hs ih
 | fn f first captured vf vc hs hs' hr hr' ih ih'=>exact .fn f first captured vf vc hs hs' ih ih'
 | rb f pre post b o vp vq hb hs hs' hc hr hr' ih ih'=>exact .rb f pre post b o vp vq (hf b hb) hs hs' ((hcell _).trans hc) ih ih'
theorem ownR_sound {σ:St} {a:Act} {w:World} {μ:Mu} {Fz Fy:Nat->Prop} (h:Sim C σ a w μ Fz Fy) {taken ns:List Nat} {v:V} {r:TV} (hr:ownR σ taken v=some (ns,r)) {u:Value} (hu:RepV μ (shs σ) Fz Fy w v u) :
  ∃ s sz xs,ns=[s]/\s∉taken/\lk s σ.blk=some (.arr sz xs)/\r = .us sz xs/\RepV μ (shs σ) Fz Fy w (.own s 0 xs.length) u:=by
 unfold ownR at hr
 split at hr
 ·rename_i s off len
  split at hr
  ·rename_i sz xs hb
   split at hr
   ·rename_i hc
    obtain ⟨rfl,rfl,ht⟩:=hc
    simp only [Option.some.injEq,Prod.mk.injEq] at hr
    obtain ⟨rfl,rfl⟩:=hr
    refine ⟨s,sz,xs,rfl,fun hm=>?_,hb,rfl,hu⟩
    have:taken.contains s=true:=by simpa using hm
    rw [ht] at this; simp at this
   ·simp at hr
  ·simp at hr
 ·simp at hr
theorem retA_sound {σ:St} {a:Act} {w:World} {μ:Mu} {Fz Fy:Nat->Prop} (h:Sim C σ a w μ Fz Fy) {taken ns:List Nat} {v:V} {r:TV} (hr:retA σ taken v=some (ns,r)) {u:Value} (hu:RepV μ (shs σ) Fz Fy w v u) :
  (∀ s∈ns,s∉taken/\lk s σ.blk≠none)/\((∃ x,r = .fv x/\RepF (Of μ Fz ns) w x u)\/∃ s sz xs,ns=[s]/\lk s σ.blk=some (.arr sz xs)/\r = .us sz xs/\RepV μ (shs σ) Fz Fy w (.own s 0 xs.length) u):=by
 unfold retA at hr
 split at hr
 ·rename_i r' hr'
  simp only [Option.some.injEq] at hr; subst hr
  obtain ⟨s,sz,xs,rfl,hnt,hb,rfl,hv⟩:=ownR_sound h hr' hu
  exact ⟨by simpa using ⟨hnt,by simp [hb]⟩,.inr ⟨s,sz,xs,rfl,hb,rfl,hv⟩⟩
 ·split at hr
  ·rename_i ns' ro x hf
   split at hr
   ·simp at hr
   ·rename_i hro
    simp only [Option.some.injEq,Prod.mk.injEq] at hr
    obtain ⟨rfl,rfl⟩:=hr
    simp only [Bool.or_eq_true,Bool.and_eq_true,Bool.not_eq_true',List.any_eq_true,not_or,not_and,not_exists] at hro
    obtain ⟨h1,h2⟩:=frz_sound h 6 hf hu
    refine ⟨fun s hs=>⟨fun ht=>?_,h1 s hs⟩,.inl ⟨x,rfl,?_⟩⟩
    ·exact hro.2 s hs (by simpa using ht)
    ·cases ro with
     | false=>exact h2
     | true =>
      have hfl:flat x=true:=by
       have:=hro.1 rfl
       simpa using this
      exact h2.of_flat hfl
  ·simp at hr
theorem retsA_sound {σ:St} {a:Act} {w:World} {μ:Mu} {Fz Fy:Nat->Prop} (h:Sim C σ a w μ Fz Fy):∀ {vs:List V} {taken:List Nat} {rs:List TV} {us:List Value},retsA σ taken vs=some rs->us.length=vs.length ->
  (∀ (j:Nat) (y:V),vs[j]? = some y->∃ u,us[j]? = some u/\RepV μ (shs σ) Fz Fy w y u) ->
  rs.length=vs.length/\∃ nms:Nat->List Nat,(∀ i j s,s∈nms i->s∈nms j->i=j)/\(∀ i s,s∈nms i->s∉taken/\lk s σ.blk≠none) ∧
   ∀ (j:Nat) (r:TV),rs[j]? = some r->∃ u,us[j]? = some u/\((∃ x,r = .fv x/\RepF (Of μ Fz (nms j)) w x u)\/∃ s sz xs,nms j=[s]/\lk s σ.blk=some (.arr sz xs)/\r = .us sz xs/\RepV μ (shs σ) Fz Fy w (.own s 0 xs.length) u)
 | [],taken,rs,us,hs,_,_=>by
  simp only [retsA,Option.some.injEq] at hs; subst hs
  exact ⟨rfl,fun _=>[],by simp,by simp,by simp⟩
 | v :: vs,taken,rs,us,hs,hl,hr=>by
  simp only [retsA] at hs
  split at hs
  ·rename_i ns x h1
   split at hs
   ·rename_i xs h2
    simp only [Option.some.injEq] at hs; subst hs
    cases us with
    | nil=>simp at hl
    | cons u us =>
    obtain ⟨u',hu',hru⟩:=hr 0 v rfl
    simp only [List.getElem?_cons_zero,Option.some.injEq] at hu'; subst hu'
    obtain ⟨k1,nms,k2,k3,k4⟩:=retsA_sound h (us:=us) h2 (by simpa using hl) (fun j y hj=>by simpa using hr (j+1) y (by simpa using hj))
    obtain ⟨m1,m2⟩:=retA_sound h h1 hru
    refine ⟨by simp [k1],fun j=>match j with | 0=>ns | j+1=>nms j,fun i j s hi hj=>?_,fun i s hi=>?_,fun j r hj=>?_⟩
    ·cases i with
     | zero=>cases j with
      | zero=>rfl
      | succ j=>exact absurd (List.mem_append_left _ hi) (k3 j s hj).1
     | succ i=>cases j with
      | zero=>exact absurd (List.mem_append_left _ hj) (k3 i s hi).1
      | succ j=>rw [k2 i j s hi hj]
    ·cases i with
     | zero=>exact m1 s hi
     | succ i=>exact ⟨fun hm=>(k3 i s hi).1 (List.mem_append_right _ hm),(k3 i s hi).2⟩
    ·cases j with
     | zero =>
      simp only [List.getElem?_cons_zero,Option.some.injEq] at hj; subst hj
      exact ⟨u,rfl,m2⟩
     | succ j=>simpa using k4 j r (by simpa using hj)
   ·simp at hs
  ·simp at hs
theorem body_end (hT:TOk G) {fn:Func} {σ:St} {a':Act} {w':World} {μ':Mu} {Fz' Fy':Nat->Prop} (hB:C.B=C.w0.heap.size) (hrd:C.rd=none) (h':Sim C σ a' w' μ' Fz' Fy') {vs:List V} {res:List TV} (hs:slotsA G σ fn.results.toList=some vs) (hr:retsA σ [] vs=some res) {n:Nat} :
  LeavesInM (FR none) n G.P fn a'.tmps (fun e w'=>∃ v us m,e = .returned v/\BelowX C w'/\Res C.X C.Fz0 C.w0 w' res v us m) a'.defers .returning w':=by
 refine leaves_marks (own:=fun b=>C.mine b/\Fy' b) a'.defers w' (fun d hd=>?_) h'.dist fun w'' hw=>?_
 ·obtain ⟨D,e1,e2,e3,e4⟩:=h'.defers d hd
  exact ⟨D,e1,⟨e3 hrd,e2⟩,e4⟩
 obtain ⟨us',k2,k1,k3⟩:=slotsA_sound hT h' hs
 obtain ⟨l1,nms,l2,l3,l4⟩:=retsA_sound h' (us:=us') hr k2 k3
 have hcells:∀ (b:Nat) (c:Array Value) (e:TypeId) (fr:Nat×Nat),w'.heap[b]? = some (.cells c e fr)->w''.heap[b]? = some (.cells c e fr):=fun b c e fr hb=>by
  rcases hw.blk b with k | ⟨_,ds,k⟩
  ·exact k.trans hb
  ·rw [k] at hb; cases hb
 have hbel:BelowX C w'':=by
  have hb:=h'.below
  refine ⟨hw.os.trans hb.os,hw.tape.trans hb.tape,hw.output.trans hb.output,by rw [hw.size]; exact hb.size,fun k hk hx=>?_,fun k c e fr hx hk hc=>?_,by rw [hw.drawn]; exact hb.drawn⟩
  ·rcases hw.blk k with k1 | ⟨⟨k1,_⟩,_⟩
   ·exact k1.trans (hb.block k hk hx)
   ·rcases k1 with k1 | k1
    ·omega
    ·exact absurd k1 hx
  ·obtain ⟨c',e1,e2⟩:=hb.kept k c e fr hx hk hc
   exact ⟨c',hcells k c' e fr e1,e2⟩
 refine ⟨pack us',?_,pack us',us',fun j=>match res[j]? with | some (.us _ _)=>((nms j).head?).bind μ' | _=>none,rfl,hbel,rfl,by rw [k2,l1],fun j r hj=>?_,fun j b base hm=>?_,fun i j b base b' base' hij hm hm'=>?_⟩
 ·rw [results_eq,Array.mapM_eq_mapM_toList]
  simp only [Sem.run_bind,Sem.run_map]
  rw [k1 w'' hw.cell]
  simp only [Result.andThen_ok,Sem.run_pure]
  congr 1
  match us' with
  | []=>rfl
  | [u]=>rfl
  | u :: u' :: us''=>simp [pack]
 ·obtain ⟨u,hu,h1⟩:=l4 j r hj
  refine ⟨u,hu,?_⟩
  have hmj:∀ i b base,(match res[i]? with | some (.us _ _)=>((nms i).head?).bind μ' | _=>none)=some (b,base)->∃ s,s∈nms i/\μ' s=some (b,base)/\∃ sz xs,res[i]? = some (.us sz xs):=fun i b base e=>by
   split at e
   ·rename_i sz xs hri
    cases hh:(nms i).head? with
    | none=>simp [hh] at e
    | some s=>exact ⟨s,List.mem_of_mem_head? (by simp [hh]),by simpa [hh] using e,sz,xs,hri⟩
   ·simp at e
  have hzz:∀ b,Fz' b->newX C.X C.Fz0 C.w0 w'' (fun j=>match res[j]? with | some (.us _ _)=>((nms j).head?).bind μ' | _=>none) b:=fun b hb=>by
   rcases h'.z0 b hb with h0 | h0
   ·exact .inl h0
   ·refine .inr ⟨hB▸h0,by rw [hw.size]; exact h'.yl b (h'.zy b hb),fun i base hm=>?_⟩
    obtain ⟨s,e1,e2,_⟩:=hmj i b base hm
    exact (h'.live s (l3 i s e1).2 b base e2).2.2 (h'.zy b hb)
  rcases h1 with ⟨x,rfl,hx⟩ | ⟨s,sz,xs,hn,hb,rfl,hv⟩
  ·refine .fv x u (hx.cells_mono (fun b hb=>?_) hw.cell)
   rcases hb with hb | ⟨s,hs',base,hm⟩
   ·exact hzz b hb
   ·obtain ⟨m1,m2,_⟩:=h'.live s (l3 j s hs').2 b base hm
    refine .inr ⟨hB▸m1,by rw [hw.size]; exact m2,fun i base' hmi=>?_⟩
    obtain ⟨s',e1,e2,sz',xs',e3⟩:=hmj i b base' hmi
    have hne:s≠s':=fun e=>by
     subst e
     have:=l2 j i s hs' e1
     subst this
     rw [hj] at e3; cases e3
    exact h'.inj s s' (l3 j s hs').2 (l3 i s' e1).2 hne b base b base' hm e2 rfl
  ·have hmu:(match res[j]? with | some (.us _ _)=>((nms j).head?).bind μ' | _=>none)=μ' s:=by rw [hj,hn]; rfl
   refine .us sz xs u ?_ ?_
   ·cases hv with
    | ownx _ _ _ _ hx=>simp [shs,hb] at hx
    | own _ _ _ ad cap sz' n' hs hn' hc hm =>
    simp only [shs,hb,Option.map_some,shp,Option.some.injEq,Prod.mk.injEq] at hs
    obtain ⟨rfl,rfl⟩:=hs
    refine .own 0 0 _ ad cap sz xs.length rfl hn' hc (hm.imp id fun ⟨b,base,e1,e2,e3⟩=>⟨b,base,by rw [hmu]; exact e1,e2,?_⟩)
    obtain ⟨c,e,q1,q2⟩:=e3
    exact ⟨c,e,hcells _ _ _ _ q1,q2⟩
   ·have:=h'.blk s _ hb
    cases this with
    | nil=>exact .nil _
    | arr _ _ b base c e hm hh hc hsz hr=>exact .arr _ _ b base c e (by rw [hmu]; exact hm) (hcells _ _ _ _ hh) hc hsz fun i x j y h1 h2=>(hr i x j y h1 h2).cells_mono hzz hw.cell
 ·split at hm
  ·rename_i sz xs hrj
   cases hh:(nms j).head? with
   | none=>simp [hh] at hm
   | some s =>
    obtain ⟨m1,m2,_⟩:=h'.live s (l3 j s (List.mem_of_mem_head? (by simp [hh]))).2 b base (by simpa [hh] using hm)
    exact ⟨hB▸m1,by rw [hw.size]; exact m2⟩
  ·simp at hm
 ·split at hm
  ·split at hm'
   ·cases hh:(nms i).head? with
    | none=>simp [hh] at hm
    | some s =>
     cases hh':(nms j).head? with
     | none=>simp [hh'] at hm'
     | some t =>
      have m1:s∈nms i:=List.mem_of_mem_head? (by simp [hh])
      have m2:t∈nms j:=List.mem_of_mem_head? (by simp [hh'])
      exact h'.inj s t (l3 i s m1).2 (l3 j t m2).2 (fun e=>hij (l2 i j s m1 (e▸m2))) b base b' base' (by simpa [hh] using hm) (by simpa [hh'] using hm')
   ·simp at hm'
  ·simp at hm
theorem calls_of_marks {P:Program} {k:FuncId} {fn:Func} {c:Code} {args:Array Value} {w:World} {R:Ending->World->Prop} (hf:P.funcs[k]? = some fn) (hb:fn.body=some c)
  (h:c.wpIn (FR none) 0 P (bodyPostM (FR none) 0 P fn R) { tmps:=args++Array.replicate (fn.ntmps-args.size) undef,defers:=[] } w):Calls P k args w R :=
 (callsIn_FR (r:=none) (n:=0)).1 (callsIn_of_wp_marks hf hb trivial h rfl)
theorem valid_of_exec (hT:TOk G) (hC:CtxOk G) (hyl:G.yl=none) {k:FuncId} {fn:Func} {c:Code} (hf:G.P.funcs[k]? = some fn) (hb:fn.body=some c) {L:Live} {D:Drawer} (hD:DrawOk G fn.ntmps D) (n:Nat)
  {args:List (Bool×FV)} (hargs:args.length<=fn.ntmps/\fn.ntmps<=90000) {e:Ex} {σ:St} (hx:exec G L fn.ntmps D n c (initSt args)=some (e,σ)) (he:e = .normal\/e = .ret) {vs:List V} {res:List TV} (hs:slotsA G σ fn.results.toList=some vs) (hr:retsA σ [] vs=some res) :
  Valid G.P k args res:=by
 intro w Fz Fy us hzy hyl' hlen hrep hgl
 refine calls_of_marks hf hb ?_
 let C:Base:={ N:=fn.ntmps,B:=w.heap.size,w0:=w,Fz0:=Fz,X:=noX }
 have hinit:Sim C (initSt args) { tmps:=us.toArray++Array.replicate (fn.ntmps-us.toArray.size) undef,defers:=[] } w (fun _=>none) Fz Fy:=by
  refine { defers:=fun d hd=>by simp at hd,dist:=.nil,size:=?_,small:=hargs.2,env:=fun j v hj=>⟨trivial,?_⟩,blk:=fun s b hb=>by simp [initSt,lk] at hb,live:=fun s hs=>by simp [initSt,lk] at hs,inj:=fun s t hs=>by simp [initSt,lk] at hs,zy:=hzy,yl:=hyl',gl:=hgl,z0:=fun b hb=>.inl hb,y0:=fun b hb=>.inl trivial,below:=.of_below (Below.refl _ _),big:=Nat.le_refl _,fm:=fun _ x=>x.elim,yd:=fun _ e=>(by cases e),mm:=fun _ x=>x.elim,lp:=fun _ e=>(by cases e) }
  ·simp [hlen,C]; omega
  ·simp only [initSt,lk_initEnv,Nat.zero_le,if_true,Nat.sub_zero,Option.map_eq_some_iff] at hj
   obtain ⟨p,hp,rfl⟩:=hj
   have hjl:j < args.length:=(List.getElem?_eq_some_iff.1 hp).1
   obtain ⟨u,hu,hru⟩:=hrep j p hp
   refine .fv _ _ _ ?_
   have:C.get { tmps:=us.toArray++Array.replicate (fn.ntmps-us.toArray.size) undef,defers:=[] } j=u:=by
    have hju:j < us.length:=by omega
    rw [List.getElem?_eq_getElem hju] at hu
    simp only [Option.some.injEq] at hu
    rw [Base.get,if_pos (by unfold GH; omega)]
    simp [Array.getD_eq_getD_getElem?,Array.getElem?_append,hju,hu]
   rw [this]; exact hru
 refine exec_sound hT hC hD c C _ _ _ _ _ _ _ _ _ 0 rfl (yok_none hyl) hinit hx fun M' a' w' μ' Fz' Fy' hM h'=>?_
 have hbe:=body_end (C:=C.withM M') hT (fn:=fn) rfl rfl h' hs hr (n:=0)
 have hq:LeavesInM (FR none) 0 G.P fn a'.tmps (fun e w'=>∃ v us m,e = .returned v/\Below w.heap.size w w'/\Res noX Fz w w' res v us m) a'.defers .returning w':=by
  have e:(fun (e:Ending) w'=>∃ v us m,e = .returned v/\BelowX (C.withM M') w'/\Res (C.withM M').X (C.withM M').Fz0 (C.withM M').w0 w' res v us m)=fun e w'=>∃ v us m,e = .returned v/\Below w.heap.size w w'/\Res noX Fz w w' res v us m:=by
   funext e w'
   apply propext
   constructor
   ·rintro ⟨v,us,m,h1,h2,h3⟩
    exact ⟨v,us,m,h1,h2.below fun _ hx=>hx,h3⟩
   ·rintro ⟨v,us,m,h1,h2,h3⟩
    exact ⟨v,us,m,h1,.of_below h2,h3⟩
  rw [<-e]; exact hbe
 rcases he with rfl | rfl<;>exact hq
def initStH (bs:List (Nat×Blk)) (caps:List V):St:={ env:=(0,.yv) :: parEnv 1 caps,blk:=bs }
theorem it_of_execH (hT : TOk G) (hC : CtxOk G) {zs : List (List FV)} {st : Option Nat} (hyl : G.yl = some (some zs,st)) {k : FuncId} {fn : Func} {c : Code} (hf : G.P.funcs[k]? = some fn) (hb : fn.body = some c) {L : Live} {D : Drawer} (hD : DrawOk G fn.ntmps D) (n : Nat)
    {bs : List (Nat × Blk)} {caps : List V} (hargs : caps.length + 1 ≤ fn.ntmps ∧ fn.ntmps ≤ 90000) {e : Ex} {σ : St} (hx : exec G L fn.ntmps D n c (initStH bs caps) = some (e,σ)) (he : e = .normal ∨ e = .ret) (htr : σ.tr.length = zs.length) {vs : List V} (hs : slotsA G σ fn.results.toList = some vs) :
    ItH G.P k bs caps zs st := by
  intro w Fz Fy M0 μ us y hzy hyl' hYm _ hlen hrep hblk hlive hinj hgl hn1 hM0 hJ hround
  refine calls_of_marks hf hb ?_
  let C : Base := { N := fn.ntmps,B := w.heap.size,w0 := w,Fz0 := Fz,X := fun b => M0 b ∨ y.H b,M := M0,yl := some y }
  generalize htm : (Value.func (.yield y.l) #[] #[] :: us).toArray ++ Array.replicate (fn.ntmps - (Value.func (.yield y.l) #[] #[] :: us).toArray.size) undef = tm
  have hget : ∀ j u,(Value.func (.yield y.l) #[] #[] :: us)[j]? = some u → C.get { tmps := tm,defers := [] } j = u := fun j u hu => by
    have hju : j < (Value.func (.yield y.l) #[] #[] :: us).length := (List.getElem?_eq_some_iff.1 hu).1
    rw [List.getElem?_eq_getElem hju] at hu
    simp only [Option.some.injEq] at hu
    rw [Base.get,if_pos (by unfold GH; simp at hju; omega),← htm]
    simp only [Array.getD_eq_getD_getElem?]
    rw [Array.getElem?_append_left (by simpa using hju)]
    simp only [List.getElem?_toArray,List.getElem?_eq_getElem hju,Option.getD_some]
    exact hu
  have hinit : Sim C (initStH bs caps) { tmps := tm,defers := [] } w μ Fz Fy := by
    refine { defers := fun d hd => by simp at hd,dist := .nil,size := ?_,small := hargs.2,env := fun j v hj => ⟨trivial,?_⟩,blk := hblk,live := fun s hs b base hm => ⟨.inr (.inr (hlive s hs b base hm).1),(hlive s hs b base hm).2.1,(hlive s hs b base hm).2.2.1⟩,inj := hinj,zy := hzy,yl := hyl',gl := hgl,z0 := fun b hb => .inl hb,y0 := fun b hb => .inl trivial,below := .of_below (Below.refl _ _),big := Nat.le_refl _,fm := fun b hb => ⟨(hM0 b hb).1,(hM0 b hb).2,fun s hs base hm => (hlive s hs b base hm).2.2.2 hb⟩,yd := fun y' e => ?_,mm := fun b hb => .inr (.inl hb),lp := fun _ e => (by cases e) }
    · rw [← htm]; simp [hlen,C]; omega
    · simp only [initStH,lk] at hj
      split at hj
      · rename_i e0; subst e0
        simp only [Option.some.injEq] at hj; subst hj
        rw [hget 0 _ rfl]
        exact .yv y.l hYm
      · rename_i e0
        rw [lk_parEnv] at hj
        split at hj
        · rename_i h1
          obtain ⟨u,hu,hru⟩ := hrep (j - 1) v hj
          rw [hget j u (by obtain ⟨i,rfl⟩ : ∃ i,j = i + 1 := ⟨j - 1,by omega⟩
                           simpa using hu)]
          exact hru
        · simp at hj
    · have e' : y = y' := by simpa [C] using e
      subst e'
      exact ⟨hYm,hJ,by simp [C,hn1],fun b _ hb => hb,fun b hb => .inr (.inl hb)⟩
  have hYok : YOk G C := ⟨fun xs st' e => by
    rw [hyl] at e
    simp only [Option.some.injEq,Prod.mk.injEq] at e
    obtain ⟨rfl,rfl⟩ := e
    exact ⟨zs,y,rfl,rfl,hround⟩⟩
  refine exec_sound hT hC hD c C _ _ _ _ _ _ _ _ _ 0 rfl hYok hinit hx fun M' a' w' μ' Fz' Fy' hM h' => ?_
  have hq : LeavesInM (FR none) 0 G.P fn a'.tmps (fun e w' => (∃ v,e = .returned v) ∧ ∃ M',y.J zs.length M' w') a'.defers .returning w' := by
    refine leaves_marks (own := fun b => C.mine b ∧ Fy' b) a'.defers w' (fun d hd => ?_) h'.dist fun w'' hw => ?_
    · obtain ⟨D,e1,e2,e3,e4⟩ := h'.defers d hd
      exact ⟨D,e1,⟨e3 rfl,e2⟩,e4⟩
    obtain ⟨us',k2,k1,k3⟩ := slotsA_sound hT h' hs
    refine ⟨pack us',?_,⟨_,rfl⟩,M',?_⟩
    · rw [results_eq,Array.mapM_eq_mapM_toList]
      simp only [Sem.run_bind,Sem.run_map]
      rw [k1 w'' hw.cell]
      simp only [Result.andThen_ok,Sem.run_pure]
      congr 1
      match us' with
      | [] => rfl
      | [u] => rfl
      | u :: u' :: us'' => simp [pack]
    · obtain ⟨_,y2,y3,y4,_⟩ := h'.yd y rfl
      rw [htr] at y2
      have hcells : ∀ (b : Nat) (c : Array Value) (e : TypeId) (fr : Nat × Nat),w'.heap[b]? = some (.cells c e fr) → w''.heap[b]? = some (.cells c e fr) := fun b c e fr hb => by
        rcases hw.blk b with k | ⟨_,ds,k⟩
        · exact k.trans hb
        · rw [k] at hb; cases hb
      refine y.stab _ _ _ _ y2 ⟨hw.os,hw.tape,hw.output,by rw [hw.size]; exact Nat.le_refl _,fun b c e fr hb => ⟨c,hcells b c e fr hb,rfl⟩,fun b hb => ?_,by rw [hw.drawn]; exact Nat.le_refl _⟩
      rcases hw.blk b with k | ⟨⟨k1,k2⟩,_⟩
      · exact k
      · exfalso
        rcases hb with hb | hb
        · rcases k1 with k1 | k1
          · have : C.B = w.heap.size := rfl
            have := hb.1
            omega
          · rcases k1 with k1 | k1
            · exact (h'.fm b (hM.sub b k1)).2.1 k2
            · exact hb.2 k1
        · exact (h'.fm b hb).2.1 k2
  rcases he with rfl | rfl <;> exact hq
end
def zeq:Value->FV->Bool
 | .int k n,.int j m=>decide (k=j)&&decide (n=m)
 | .bool a,.bool b=>a==b
 | .string s,.str t=>s.data.toList.isEmpty&&t.data.toList.isEmpty
 | .slice none 0 0,.sl true 0 []=>true
 | .pointer none,.nilpt=>true
 | .nilFunc,.nilfn=>true
 | .nilIface,.nilif=>true
 | .map none,.nilmp=>true
 | _,_=>false
def zlist:List Value->List FV->Bool
 | [],[]=>true
 | v :: vs,x :: xs=>zeq v x&&zlist vs xs
 | _,_=>false
theorem zeq_sound {v:Value} {x:FV} (h:zeq v x=true):v=cval x/\zgood x=true:=by
 unfold zeq at h
 split at h
 ·simp only [Bool.and_eq_true,decide_eq_true_eq] at h; obtain ⟨rfl,rfl⟩:=h; exact ⟨rfl,rfl⟩
 ·simp only [beq_iff_eq] at h; subst h; exact ⟨rfl,rfl⟩
 ·rename_i s t
  simp only [Bool.and_eq_true,List.isEmpty_iff] at h
  have:s=t:=by cases s; cases t; simp only [ByteArray.mk.injEq]; apply Array.toList_inj.1; rw [h.1,h.2]
  subst this; exact ⟨rfl,rfl⟩
 ·exact ⟨rfl,rfl⟩
 ·exact ⟨rfl,rfl⟩
 ·exact ⟨rfl,rfl⟩
 ·exact ⟨rfl,rfl⟩
 ·exact ⟨rfl,rfl⟩
 ·simp at h
theorem zlist_sound:∀ {vs:List Value} {xs:List FV},zlist vs xs=true->vs=xs.map cval/\xs.all zgood=true
 | [],[],_=>⟨rfl,rfl⟩
 | v :: vs,x :: xs,h=>by
  simp only [zlist,Bool.and_eq_true] at h
  obtain ⟨h1,h2⟩:=zeq_sound h.1
  obtain ⟨h3,h4⟩:=zlist_sound h.2
  exact ⟨by simp [h1,h3],by simp [h2,h4]⟩
 | [],_ :: _,h=>by simp [zlist] at h
 | _ :: _,[],h=>by simp [zlist] at h
def pairsEq:List (Nat×Nat)->List (Nat×Nat)->Bool
 | [],[]=>true
 | (a,b) :: r,(c,d) :: s=>decide (a=c)&&decide (b=d)&&pairsEq r s
 | _,_=>false
theorem pairsEq_sound:∀ {xs ys:List (Nat×Nat)},pairsEq xs ys=true->xs=ys
 | [],[],_=>rfl
 | (a,b) :: r,(c,d) :: s,h=>by
  simp only [pairsEq,Bool.and_eq_true,decide_eq_true_eq] at h
  obtain ⟨⟨rfl,rfl⟩,h⟩:=h
  rw [pairsEq_sound h]
 | [],_ :: _,h=>by simp [pairsEq] at h
 | _ :: _,[],h=>by simp [pairsEq] at h
def kindOk (d:TypeDesc) (k:TK):Bool :=
 match d,k with
 | .struct fields,.struct fs=>pairsEq (fields.toList.map fun f=>(f.offset,f.type)) fs
 | .array n e,.array m f=>decide (n=m)&&decide (e=f)
 | .slice e,.slice f=>decide (e=f)
 | .map a b,.map c d=>decide (a=c)&&decide (b=d)
 | .int k,.int j=>decide (k=j)
 | .pointer e,.ptr f=>decide (e=f)
 | .bool,.bool=>true
 | .string,.string=>true
 | .struct _,.other=>false
 | .array _ _,.other=>false
 | _,.other=>true
 | _,_=>false
theorem kindOk_sound {d : TypeDesc} {k : TK} (h : kindOk d k = true) : KindIs d k := by
  cases k with
  | other => refine ⟨fun fs e => ?_,fun n e he => ?_⟩
             · subst e; simp [kindOk] at h
             · subst he; simp [kindOk] at h
  | struct fs => cases d <;> simp [kindOk] at h; exact ⟨_,rfl,pairsEq_sound h⟩
  | int k => cases d <;> simp [kindOk] at h; subst h; rfl
  | ptr e => cases d <;> simp [kindOk] at h; subst h; rfl
  | bool => cases d <;> simp [kindOk] at h; rfl
  | string => cases d <;> simp [kindOk] at h; rfl
  | slice e => cases d <;> simp [kindOk] at h; subst h; rfl
  | array n e => cases d <;> simp [kindOk] at h; obtain ⟨rfl,rfl⟩ := h; rfl
  | map a b => cases d <;> simp [kindOk] at h; obtain ⟨rfl,rfl⟩ := h; rfl
def tiChk (P:Program) (t:Nat) (ti:TI):Bool :=
 match P.info? t,P.underlying t with
 | some i,some d=>decide (i.size=ti.size)&&decide (i.bytes=ti.bytes)&&(match i.zero with | some z=>zlist z.cells.toList ti.zero | none=>false)&&decide (ti.zero.length=ti.size)&&kindOk d ti.kind&&(ti.kind.agg||(match i.zero with | some (.agg _)=>false | _=>true))
 | _,_=>false
theorem tiChk_sound {P:Program} {t:Nat} {ti:TI} (h:tiChk P t ti=true):TIok P t ti:=by
 unfold tiChk at h
 split at h
 ·rename_i i d hi hd
  simp only [Bool.and_eq_true,decide_eq_true_eq] at h
  obtain ⟨⟨⟨⟨⟨h1,h2⟩,h3⟩,h4⟩,h5⟩,_⟩:=h
  cases hz:i.zero with
  | none=>simp [hz] at h3
  | some z =>
   simp only [hz] at h3
   obtain ⟨z1,z2⟩:=zlist_sound h3
   exact { info:=⟨i,hi,h1,h2,z,hz,z1⟩,good:=z2,zsize:=h4,under:=⟨d,hd,kindOk_sound h5⟩ }
 ·simp at h
theorem tiChk_zero {P:Program} {t:Nat} {ti:TI} (h:tiChk P t ti=true) (ha:ti.kind.agg=false) {z:FV} (hz:ti.zero=[z]) (w:World):(zeroValue t).run P w = .ok (cval z) w:=by
 unfold tiChk at h
 split at h
 ·rename_i i d hi hd
  simp only [Bool.and_eq_true,decide_eq_true_eq] at h
  obtain ⟨⟨⟨⟨⟨h1,h2⟩,h3⟩,h4⟩,h5⟩,h6⟩:=h
  cases hzz:i.zero with
  | none=>simp [hzz] at h3
  | some v =>
   simp only [hzz] at h3
   obtain ⟨z1,z2⟩:=zlist_sound h3
   rw [hz] at z1
   simp only [hzz,ha,Bool.false_or] at h6
   have hv:v.cells=#[v]:=by cases v<;>first | rfl | simp at h6
   rw [hv] at z1
   have e:v=cval z:=by simpa using z1
   simp [zeroValue,typeInfo,hi,hzz,e]
 ·simp at h
def tblChk (P:Program) (tbl:List (Nat×TI)):Bool:=tbl.all fun e=>tiChk P e.1 e.2
theorem lk_mem {α:Type} {k:Nat} {v:α}:∀ {l:List (Nat×α)},lk k l=some v->(k,v)∈l
 | [],h=>by simp [lk] at h
 | (j,u) :: r,h=>by
  simp only [lk] at h
  split at h
  ·rename_i e; simp only [Option.some.injEq] at h; subst e; subst h; simp
  ·exact List.mem_cons_of_mem _ (lk_mem h)
theorem TOk_of_chk {G:Pg} (h:tblChk G.P G.tbl=true) (hE:∀ t n,lk t G.eqs=some n->EqIs G.P t n)
  (hK:∀ t n,t∈G.keys->lk t G.eqs=some n->∀ (xs:Array Value) (em:Bool) (w:World),eqvs n xs.toList xs.toList=some true->(Instr.checkKey em 10000 t (.agg xs)).run G.P w = .ok () w):TOk G:=by
 simp only [tblChk,List.all_eq_true] at h
 exact ⟨fun t ti ht=>tiChk_sound (h (t,ti) (lk_mem ht)),hE,hK,fun t ti z ht ha hz w=>tiChk_zero (h (t,ti) (lk_mem ht)) ha hz w⟩
def ints (l:List Int):List FV:=l.map (.int .i64)
@[simp] theorem ints_nil:ints []=[]:=rfl
@[simp] theorem ints_cons (x:Int) (l:List Int):ints (x :: l) = .int .i64 x :: ints l:=rfl
@[simp] theorem ints_length (l:List Int):(ints l).length=l.length:=by simp [ints]
@[simp] theorem ints_append (a b:List Int):ints (a++b)=ints a++ints b:=by simp [ints]
@[simp] theorem ints_get (l:List Int) (i:Nat):(ints l)[i]? = (l[i]?).map (.int .i64):=by simp [ints]
@[simp] theorem ints_flat (l:List Int):(ints l).all flat=true:=by simp [ints,flat,flat1]
@[simp] theorem ints_take (l:List Int) (n:Nat):(ints l).take n=ints (l.take n):=by simp [ints,List.map_take]
@[simp] theorem ints_drop (l:List Int) (n:Nat):(ints l).drop n=ints (l.drop n):=by simp [ints,List.map_drop]
@[simp] theorem ints_set (l:List Int) (n:Nat) (x:Int):(ints l).set n (.int .i64 x)=ints (l.set n x):=by simp [ints,List.map_set]
end Go.Proofs.YtejodhjhddnbeaaDoor.E
