/-
  The dues (ShareDues): Shares returns what the chapter says, for any voyage. Conditions: none.
-/
import Derived.Test.YtejodhjhddnbeaaDoorZ06
set_option linter.unusedVariables false
set_option linter.unusedSimpArgs false
namespace Go.Proofs.YtejodhjhddnbeaaDoor.E
open Go Go.RowKit
section
variable {C:Base} {G:Pg} {keep:List Nat} {ops:Array Oper} {pl:Plan} {σ0:St} {outs:List (Option (Nat×V×Option Blk))}
theorem front_genX (hT:TOk G) (hC:CtxOk G) (hp:PlanOk ops.toList pl (depTab ops.toList [])) {Q:Exit->Act->World->Prop} {ro:Option Nat} {rm:Nat} {σ':St} {m0:Nat} (W X:Nat->Prop)
  (hY:YOk G C) (hQ:∀ M' a' w' μ' Fz' Fy',More C M'->Sim (C.withM M') σ' a' w' μ' Fz' Fy'->Q .normal a' w') (hN:∀ (i:Nat) (o:Oper) (d:Nat),i < pl.length->ops[i]? = some o->o.dst=some d->d < C.N)
  (ho1:outs.length=pl.length) (hw3:∀ (i:Nat) (e:List Nat×List Nat) (o:Oper) (out:Option (Nat×V×Option Blk)),pl[i]? = some e->ops[i]? = some o->outs[i]? = some out->WeakFact ops.toList pl i o e out)
  (hEnd:∀ (fuel:Nat) (listed:Array Bool) {τ:St} {a:Act} {w:World} {μ:Mu} {Fz Fy:Nat->Prop},listed.size=ops.size->(∀ i,On listed i->∀ x,((depTab ops.toList []).getD i 0).testBit x=true->On listed x) ->
   (∀ i,pl.length<=i->i < ops.size->(On listed i↔i < m0))->(∀ i,X i->¬ On listed i)->left ops.size listed<=fuel->Sim C τ a w μ Fz Fy->Tog ops.toList pl σ0 outs (fun i=>i < pl.length/\On listed i) τ->(∀ i,i < pl.length->On listed i)->wpAnyIn (FR ro) rm G.P .any ops Q fuel listed a w)
  (ho3:∀ (i:Nat) (e:List Nat×List Nat) (o:Oper) (out:Option (Nat×V×Option Blk)),W i->pl[i]? = some e->ops[i]? = some o->outs[i]? = some out ->
   ∃ outs' σx,(outs'=outs.take i\/(outs'=outs/\(∀ j,overAt ops.toList pl j=false)/\maker o.op=false))/\Le σx (afterO σ0 outs')/\AtFact G keep ops.toList σx o e out)
  (hn1:∀ (i:Nat) (o:Oper) (d:Nat),W i->i < pl.length->ops[i]? = some o->o.dst=some d->overAt ops.toList pl i=false->lk d σ0.env=none)
  (hn2:∀ (i:Nat) (o:Oper) (d:Nat),W i->i < pl.length->ops[i]? = some o->o.dst=some d->maker o.op=true->Fresh d σ0)
  (hE:∀ (fuel:Nat) (listed:Array Bool) {τ:St} {a:Act} {w:World} {μ:Mu} {Fz Fy:Nat->Prop} (i:Nat),listed.size=ops.size->(∀ i,On listed i->∀ x,((depTab ops.toList []).getD i 0).testBit x=true->On listed x) ->
   (∀ i,pl.length<=i->i < ops.size->(On listed i↔i < m0))->(∀ i,X i->¬ On listed i)->left ops.size (listed.setIfInBounds i true)<=fuel->Sim C τ a w μ Fz Fy->Tog ops.toList pl σ0 outs (fun i=>i < pl.length/\On listed i) τ ->
   (∃ j,j < pl.length/\¬ On listed j)->i∈Region.ready .any ops listed->(∀ x,((depTab ops.toList []).getD i 0).testBit x=true->On listed x)->(pl.length<=i\/X i)->i < ops.size->wpOpIn (FR ro) rm G.P ops Q i (wpAnyIn (FR ro) rm G.P .any ops Q fuel (listed.setIfInBounds i true)) a w) :
  ∀ (fuel:Nat) (listed:Array Bool) {τ:St} {a:Act} {w:World} {μ:Mu} {Fz Fy:Nat->Prop},listed.size=ops.size->(∀ i,On listed i->∀ x,((depTab ops.toList []).getD i 0).testBit x=true->On listed x) ->
  (∀ i,pl.length<=i->i < ops.size->(On listed i↔i < m0))->(∀ i,X i->¬ On listed i)->(∀ i,i < pl.length->On listed i\/W i\/X i)->left ops.size listed<=fuel->Sim C τ a w μ Fz Fy->Tog ops.toList pl σ0 outs (fun i=>i < pl.length/\On listed i) τ->wpAnyIn (FR ro) rm G.P .any ops Q fuel listed a w:=by
 intro fuel
 have hpn:pl.length<=ops.size:=by simpa using hp.len
 have hover:=over_writes (ops:=ops) ho1 hw3
 induction fuel with
 | zero =>
  intro listed τ a w μ Fz Fy hs hcl hno hX hW hf h ht
  exact hEnd 0 listed hs hcl hno hX hf h ht fun i hi=>on_of_left hs (by omega) i (by omega)
 | succ fuel ih =>
  intro listed τ a w μ Fz Fy hs hcl hno hX hW hf h ht
  by_cases hall:∀ i,i < pl.length->On listed i
  ·exact hEnd (fuel+1) listed hs hcl hno hX hf h ht hall
  simp only [Classical.not_forall] at hall
  obtain ⟨j0,hj0,hj0u⟩:=hall
  refine ⟨fun hrd=>?_,fun i hi=>?_⟩
  ·obtain ⟨j,hj⟩:=ready_least hs (fun i o ho=>hp.back i o (by simpa using ho)) j0 (by omega) hj0u
   rw [hrd] at hj; simp at hj
  ·obtain ⟨h1,h2,oi,ho,hon⟩:=ready_mem hs hi
   have hdep:∀ x,((depTab ops.toList []).getD i 0).testBit x=true->On listed x:=fun x hx=>by
    obtain ⟨e',he',hb,hor⟩:=hp.dep i oi (by simpa using ho) x hx
    have:=hon e' he' hb
    rcases hor with rfl | h3
    ·exact this
    ·exact hcl _ this x h3
   have hlf:=left_set hs h1 h2
   by_cases hip:pl.length<=i
   ·exact hE fuel listed i hs hcl hno hX (by omega) h ht ⟨j0,hj0,hj0u⟩ hi hdep (.inl hip) h1
   simp only [Nat.not_le] at hip
   by_cases hxi:X i
   ·exact hE fuel listed i hs hcl hno hX (by omega) h ht ⟨j0,hj0,hj0u⟩ hi hdep (.inr hxi) h1
   have hX':∀ j,X j->¬ On (listed.setIfInBounds i true) j:=fun j hj hx=>by
    rw [on_set hs h1] at hx
    rcases hx with rfl | hx
    ·exact hxi hj
    ·exact hX j hj hx
   have hcl':∀ j,On (listed.setIfInBounds i true) j->∀ x,((depTab ops.toList []).getD j 0).testBit x=true->On (listed.setIfInBounds i true) x:=fun j hj x hx=>by
    rw [on_set hs h1] at hj ⊢
    rcases hj with rfl | hj
    ·exact .inr (hdep x hx)
    ·exact .inr (hcl j hj x hx)
   have hno':∀ j,pl.length<=j->j < ops.size->(On (listed.setIfInBounds i true) j↔j < m0):=fun j hj hj2=>by
    rw [on_set hs h1,<-hno j hj hj2]
    exact ⟨fun hx=>hx.resolve_left (by omega),.inr⟩
   have hW':∀ j,j < pl.length->On (listed.setIfInBounds i true) j\/W j\/X j:=fun j hj=>(hW j hj).imp (fun hx=>(on_set hs h1).2 (.inr hx)) id
   have hWi:W i:=((hW i hip).resolve_left h2).resolve_right hxi
   have go:∀ {τ':St} {a1:Act} {w1:World} {μ1:Mu} {Fz1 Fy1:Nat->Prop},Sim C τ' a1 w1 μ1 Fz1 Fy1->Tog ops.toList pl σ0 outs (fun j=>j < pl.length/\On (listed.setIfInBounds i true) j) τ'->wpAnyIn (FR ro) rm G.P .any ops Q fuel (listed.setIfInBounds i true) a1 w1 :=
    fun h' ht'=>ih _ (by simpa using hs) hcl' hno' hX' hW' (by omega) h' ht'
   obtain ⟨d,hd⟩:=hp.dst i oi hip (by simpa using ho)
   have hiout:i < outs.length:=by omega
   have hne:∀ j v ob,j < pl.length->outs[j]? = some (some (d,v,ob))->j=i:=fun j v ob hj hjo=>by
    have hjs:j < ops.size:=by omega
    obtain ⟨d',hd',hrest⟩:=hw3 j pl[j] ops[j] _ (List.getElem?_eq_getElem hj) (Array.getElem?_eq_getElem hjs) hjo
    simp only at hrest
    obtain ⟨rfl,_⟩:=hrest
    exact hp.inj j i ops[j] oi hj hip (by simp [hjs]) (by simpa using ho) (hd'.trans hd.symm)
   have hdt:overAt ops.toList pl i=false->lk d τ.env=none:=fun hov=>by
    cases hk:lk d τ.env with
    | none=>rfl
    | some u =>
     rcases ht.env d u hk with h3 | ⟨j,⟨hj,hjon⟩,ob,hjo⟩
     ·rw [hn1 i oi d hWi hip ho hd hov] at h3; simp at h3
     ·exact absurd (hne j u ob hj hjo▸hjon) h2
   have hoi:=ho3 i pl[i] oi outs[i] hWi (List.getElem?_eq_getElem hip) ho (List.getElem?_eq_getElem hiout)
   have hwi:=hw3 i pl[i] oi outs[i] (List.getElem?_eq_getElem hip) ho (List.getElem?_eq_getElem hiout)
   generalize hx:outs[i]=out at hoi hwi
   have houti:outs[i]? = some out:=by rw [List.getElem?_eq_getElem hiout,hx]
   obtain ⟨d',hd',hwrest⟩:=hwi
   obtain rfl:d=d':=by rw [hd] at hd'; simpa using hd'
   obtain ⟨outs',σx,hsub,hσx,hat⟩:=hoi
   have hin:∀ (j:Nat) (x:Nat×V×Option Blk),outs'[j]? = some (some x)->outs[j]? = some (some x)/\(j < i\/((∀ j,overAt ops.toList pl j=false)/\maker oi.op=false)):=fun j x hj=>by
    rcases hsub with rfl | ⟨rfl,h6⟩
    ·have hji:j < i:=by
      have:=(List.getElem?_eq_some_iff.1 hj).1
      simp at this; omega
     exact ⟨by rw [List.getElem?_take,if_pos hji] at hj; exact hj,.inl hji⟩
    ·exact ⟨hj,.inr h6⟩
   have henv:∀ k v,lk k (pk σx.env pl[i].1)=some v->lk k τ.env=some v:=fun k v hk=>by
    obtain ⟨hk1,hk2⟩:=lk_pk hk
    have hk2:=hσx.1 k v hk2
    rcases afterO_env' hk2 with ⟨h3,hno3⟩ | ⟨j,ob,hj⟩
    ·rcases ht.base k v h3 with ⟨j,⟨hj,hjon⟩,hov,o,hjo,hjd⟩ | h4
     ·exfalso
      obtain ⟨_,v2,ob2,h5⟩:=hover j o k hov hjo hjd
      rcases hsub with rfl | ⟨rfl,h6,_⟩
      ·rcases hp.sees i j pl[i] o k (List.getElem?_eq_getElem hip) hj hjo hjd hk1 with h6 | ⟨_,h6 | h6⟩
       ·have hji:=hp.lt i j h6
        exact hno3 j v2 ob2 (by rw [List.getElem?_take,if_pos hji]; exact h5)
       ·subst h6; exact h2 hjon
       ·exact h2 (hcl j hjon i h6)
      ·rw [h6 j] at hov; simp at hov
     ·exact h4
    ·obtain ⟨hjo,hji⟩:=hin j _ hj
     have hjp:j < pl.length:=by rw [<-ho1]; exact (List.getElem?_eq_some_iff.1 hjo).1
     have hjs:j < ops.size:=by omega
     obtain ⟨d',hd',hrest'⟩:=hw3 j pl[j] ops[j] _ (List.getElem?_eq_getElem hjp) (Array.getElem?_eq_getElem hjs) hjo
     simp only at hrest'
     obtain ⟨rfl,_⟩:=hrest'
     rcases hp.sees i j pl[i] ops[j] k (List.getElem?_eq_getElem hip) hjp (by simp [hjs]) hd' hk1 with h6 | ⟨h7,h6⟩
     ·exact (ht.has j k v ob ⟨hjp,hdep j h6⟩ hjo).1
     ·rcases hji with hji | ⟨h8,_⟩
      ·rcases h6 with h6 | h6
       ·omega
       ·have:=hp.lt j i h6; omega
      ·rw [h8 j] at h7; simp at h7
   have hmk:∀ j (e:Oper) d1 v1 b1,j < pl.length->ops[j]? = some e->outs[j]? = some (some (d1,v1,some b1))->e.dst=some d1/\maker e.op=true:=fun j e d1 v1 b1 hj he hjo=>by
    obtain ⟨d',hd',hrest'⟩:=hw3 j pl[j] e _ (List.getElem?_eq_getElem hj) he hjo
    simp only at hrest'
    obtain ⟨rfl,_,_,hc⟩:=hrest'
    exact ⟨hd',hc (by simp)⟩
   have hblk:∀ s b,lk s (rmL pl[i].2 σx.blk)=some b->lk s τ.blk=some b:=fun s b hb=>by
    rw [lk_rmL] at hb
    split at hb
    ·simp at hb
    ·rename_i hsn
     have hb:=hσx.2 s b hb
     rcases afterO_blk hb with h3 | ⟨j,v,hj⟩
     ·exact ht.bblk s b h3
     ·obtain ⟨hjo,hji⟩:=hin j _ hj
      have hjp:j < pl.length:=by rw [<-ho1]; exact (List.getElem?_eq_some_iff.1 hjo).1
      have hjs:j < ops.size:=by omega
      obtain ⟨m1,m2⟩:=hmk j ops[j] s v b hjp (Array.getElem?_eq_getElem hjs) hjo
      rcases hp.hides i j pl[i] ops[j] s (List.getElem?_eq_getElem hip) hjp (by simp [hjs]) m1 m2 with h4 | h4 | h4
      ·exact (ht.has j s v (some b) ⟨hjp,hdep j h4⟩ hjo).2 b rfl
      ·rcases hji with hji | ⟨_,h8⟩
       ·omega
       ·subst h4
        have:ops[i]=oi:=by rw [Array.getElem?_eq_getElem hjs] at ho; simpa using ho
        rw [this,h8] at m2; simp at m2
      ·exact absurd h4 hsn
   unfold wpOpIn
   simp only [ho]
   match out,hat,hwrest,houti with
   | none,hg,hwr,houti =>
    simp only [AtFact] at hg
    have hg':=guardA_mono (τ:=τ) ⟨henv,fun s b hb=>by simp [lk] at hb⟩ hg
    have hnov:overAt ops.toList pl i=false:=by
     cases hov:overAt ops.toList pl i with
     | false=>rfl
     | true =>
      obtain ⟨_,v2,ob2,h5⟩:=hover i oi d hov (by simpa using ho) hd
      rw [houti] at h5; simp at h5
    have hdt:=hdt hnov
    rw [if_neg (by simp [guardA_sound h hg'])]
    refine ⟨fun _ _=>trivial,go (h.unset' oi.dst undef) ?_⟩
    rw [hd]
    have hrm:∀ k,lk k (unsetS τ (some d)).env=lk k τ.env:=fun k=>by
     simp only [unsetS,lk_rm]
     split
     ·rename_i e; rw [e,hdt]
     ·rfl
    refine { tr:=ht.tr,base:=fun k v hk=>(ht.base k v hk).imp (fun ⟨j,hj,r⟩=>⟨j,⟨hj.1,(on_set hs h1).2 (.inr hj.2)⟩,r⟩) (fun h=>by rw [hrm]; exact h),bblk:=ht.bblk,has:=fun j d v ob hj hjo=>?_,env:=fun k u hk=>?_,blk:=fun s b hb=>?_ }
    ·rw [on_set hs h1] at hj
     rcases hj.2 with rfl | hj2
     ·rw [houti] at hjo; simp at hjo
     ·rw [hrm]; exact ht.has j d v ob ⟨hj.1,hj2⟩ hjo
    ·rw [hrm] at hk
     exact (ht.env k u hk).imp id fun ⟨j,hj,r⟩=>⟨j,⟨hj.1,(on_set hs h1).2 (.inr hj.2)⟩,r⟩
    ·exact (ht.blk s b hb).imp id fun ⟨j,hj,r⟩=>⟨j,⟨hj.1,(on_set hs h1).2 (.inr hj.2)⟩,r⟩
   | some (d1,v,ob),hcase,hwr,houti =>
    simp only at hwr
    simp only [AtFact] at hcase
    obtain ⟨rfl,hm1,hm2,hmk1⟩:=hwr
    have hfresh:ob≠none->Fresh d1 τ:=fun hob=>by
     have hmi:maker oi.op=true:=hmk1 hob
     have hf0:=hn2 i oi d1 hWi hip ho hd hmi
     have hsp:∀ j d2 v2 ob2,j < pl.length->On listed j->outs[j]? = some (some (d2,v2,ob2))->ment 5 d1 v2=false/\∀ b,ob2=some b->∀ y∈bcells b,ment 5 d1 y=false:=fun j d2 v2 ob2 hj hjon hjo=>by
      have hjs:j < ops.size:=by omega
      obtain ⟨d',hd',hrest'⟩:=hw3 j pl[j] ops[j] _ (List.getElem?_eq_getElem hj) (Array.getElem?_eq_getElem hjs) hjo
      simp only at hrest'
      obtain ⟨rfl,k1,k2,_⟩:=hrest'
      have hin:d1∈pl[j].2:=by
       rcases hp.hides j i pl[j] oi d1 (List.getElem?_eq_getElem hj) hip (by simpa using ho) hd hmi with h4 | h4 | h4
       ·exact absurd (hcl j hjon i h4) h2
       ·exact absurd (h4▸hjon) h2
       ·exact h4
      refine ⟨?_,fun cells hc y hy=>?_⟩
      ·simp only [mentAny,List.any_eq_false] at k1
       simpa using k1 d1 hin
      ·subst hc
       simp only [blkMent,List.any_eq_false] at k2
       have:=k2 y hy
       simp only [mentAny,Bool.not_eq_true,List.any_eq_false] at this
       simpa using this d1 hin
     refine { env:=fun k u hk=>?_,box:=fun s cells hb y hy=>?_,none:=?_ }
     ·rcases ht.env k u hk with h3 | ⟨j,⟨hj,hjon⟩,ob2,hjo⟩
      ·exact hf0.env k u h3
      ·exact (hsp j k u ob2 hj hjon hjo).1
     ·rcases ht.blk s _ hb with h3 | ⟨j,⟨hj,hjon⟩,v2,hjo⟩
      ·exact hf0.box s cells h3 y hy
      ·exact (hsp j s v2 _ hj hjon hjo).2 cells rfl y hy
     ·cases hk:lk d1 τ.blk with
      | none=>rfl
      | some b =>
       rcases ht.blk d1 b hk with h3 | ⟨j,⟨hj,hjon⟩,v2,hjo⟩
       ·rw [hf0.none] at h3; simp at h3
       ·exact absurd (hne j v2 _ hj hjo▸hjon) h2
    have htog:∀ τ',Added d1 v ob τ τ'->Tog ops.toList pl σ0 outs (fun j=>j < pl.length/\On (listed.setIfInBounds i true) j) τ':=fun τ' hadd=>by
     refine { tr:=hadd.tr.trans ht.tr,base:=fun k u hk=>?_,bblk:=fun s b hb=>?_,has:=fun j d2 v2 ob2 hj hjo=>?_,env:=fun k u hk=>?_,blk:=fun s b hb=>?_ }
     ·rcases ht.base k u hk with ⟨j,hj,r⟩ | h6
      ·exact .inl ⟨j,⟨hj.1,(on_set hs h1).2 (.inr hj.2)⟩,r⟩
      ·by_cases e:k=d1
       ·cases hov:overAt ops.toList pl i with
        | true=>exact .inl ⟨i,⟨hip,(on_set hs h1).2 (.inl rfl)⟩,hov,oi,by simpa using ho,by rw [e]; exact hd⟩
        | false =>
         rw [e,hn1 i oi d1 hWi hip ho hd hov] at hk
         simp at hk
       ·exact .inr (by rw [hadd.env,if_neg e]; exact h6)
     ·rw [hadd.blk]
      split
      ·rename_i e; subst e
       cases ob with
       | none=>exact ht.bblk _ b hb
       | some b1=>exact absurd hb (by
         have:=(hfresh (by simp)).none
         have h5:=ht.bblk _ b hb
         rw [this] at h5; simp at h5)
      ·exact ht.bblk s b hb
     ·rw [on_set hs h1] at hj
      by_cases e:j=i
      ·subst e
       rw [houti] at hjo
       simp only [Option.some.injEq,Prod.mk.injEq] at hjo
       obtain ⟨rfl,rfl,rfl⟩:=hjo
       refine ⟨by rw [hadd.env,if_pos rfl],fun b hb=>?_⟩
       rw [hadd.blk,if_pos rfl,hb]; rfl
      ·have hjon:On listed j:=hj.2.resolve_left e
       have hd2:d2≠d1:=fun e2=>by subst e2; exact e (hne j v2 ob2 hj.1 hjo)
       obtain ⟨k1,k2⟩:=ht.has j d2 v2 ob2 ⟨hj.1,hjon⟩ hjo
       refine ⟨by rw [hadd.env,if_neg hd2]; exact k1,fun b hb=>?_⟩
       rw [hadd.blk,if_neg hd2]; exact k2 b hb
     ·rw [hadd.env] at hk
      split at hk
      ·rename_i e; subst e
       simp only [Option.some.injEq] at hk; subst hk
       exact .inr ⟨i,⟨hip,(on_set hs h1).2 (.inl rfl)⟩,ob,houti⟩
      ·exact (ht.env k u hk).imp id fun ⟨j,hj,r⟩=>⟨j,⟨hj.1,(on_set hs h1).2 (.inr hj.2)⟩,r⟩
     ·rw [hadd.blk] at hb
      split at hb
      ·rename_i e; subst e
       cases ob with
       | none=>exact (ht.blk _ b (by simpa using hb)).imp id fun ⟨j,hj,r⟩=>⟨j,⟨hj.1,(on_set hs h1).2 (.inr hj.2)⟩,r⟩
       | some b1 =>
        simp only [Option.some_or,Option.some.injEq] at hb
        subst hb
        exact .inr ⟨i,⟨hip,(on_set hs h1).2 (.inl rfl)⟩,v,houti⟩
      ·exact (ht.blk s b hb).imp id fun ⟨j,hj,r⟩=>⟨j,⟨hj.1,(on_set hs h1).2 (.inr hj.2)⟩,r⟩
    rcases hcase with ⟨hg,ha⟩ | ⟨hg,rfl,rfl⟩
    ·have hg':=guardA_mono (τ:=τ) ⟨henv,fun s b hb=>by simp [lk] at hb⟩ hg
     rw [if_pos (guardA_sound h hg')]
     obtain ⟨τ',hst,hadd⟩:=addA_step (keep:=keep) (N:=C.N) hC ⟨henv,hblk⟩ hd (hN i oi d1 hip ho hd) ha hfresh
     exact oper_in (stepA_nodefer hst) (stepA_sound hT hC h hst fun a' w' μ' Fz' Fy' h'=>go h' (htog τ' hadd))
    ·have hg':=guardA_mono (τ:=τ) ⟨henv,fun s b hb=>by simp [lk] at hb⟩ hg
     rw [if_neg (by simp [guardA_sound h hg'])]
     have hsk:skipS C.N τ (some d1)={ τ with env:=put d1 (.tup []) τ.env }:=by simp [skipS,hN i oi d1 hip ho hd]
     refine ⟨fun _ _=>trivial,?_⟩
     have h':=h.skip' oi.dst
     rw [hd,hsk] at h'
     rw [hd]
     exact go h' (htog _ (added_put d1 (.tup []) τ))
def appB (G:Pg) (σ:St) (o:Oper):Option (Nat×Nat×Blk×V) :=
 match o.guard,o.dst,o.op with
 | none,some d,.call ⟨.builtin .append,args,ats⟩=>match args.toList,ats.toList with
  | [x,y],[t,t']=>if t=t' then match opd σ x,opd σ y with
    | some x,some y=>match lk t G.tbl with
     | some ⟨_,_,_,.slice e⟩=>match lk e G.tbl with
      | some ti=>match srcA σ ti.size y with
       | some ys=>match dstA σ ti.size x (!ys.isEmpty) with
        | some (some s,xs)=>if (xs.length+ys.length)*ti.bytes<=140737488355328/\ti.bytes≠0 then some (s,d,.arr ti.size (xs++ys),.own d 0 (xs.length+ys.length)) else none
        | _=>none
       | none=>none
      | none=>none
     | _=>none
    | _,_=>none
   else none
  | _,_=>none
 | _,_,_=>none
theorem dstA_own {π τ:St} (H:Le π τ) {sz s:Nat} {x:V} {more:Bool} {xs:List FV} (h:dstA π sz x more=some (some s,xs)):dstA τ sz x more=some (some s,xs):=by
 unfold dstA at h ⊢
 split at h
 ·split at h
  ·rename_i e
   simp only [H.2 _ _ e]
   exact h
  ·cases h
 ·split at h
  ·simp at h
  ·cases h
 ·cases h
theorem dstA_has {π:St} {sz s:Nat} {x:V} {more:Bool} {xs:List FV} (h:dstA π sz x more=some (some s,xs)):lk s π.blk≠none:=by
 unfold dstA at h
 split at h
 ·split at h
  ·rename_i e
   split at h
   ·simp only [Option.some.injEq,Prod.mk.injEq] at h
    rw [<-h.1,e]
    simp
   ·cases h
  ·cases h
 ·split at h
  ·simp at h
  ·cases h
 ·cases h
theorem appB_step {π τ:St} (H:Le π τ) {keep:List Nat} {N:Nat} {o:Oper} {s d:Nat} {b:Blk} {v:V} (hN:∀ d,o.dst=some d->d < N) (h:appB G π o=some (s,d,b,v)) :
  o.guard=none/\o.dst=some d/\maker o.op=true/\bcells b=[]/\(∀ f,f≠d->ment 5 f v=false)/\lk s π.blk≠none/\stepA G keep N τ o=some ((τ.drop s).mk' d b v):=by
 unfold appB at h
 split at h
 ·rename_i d0 args ats hg hd hop
  split at h
  ·rename_i x y t t' e1 e2
   split at h
   ·rename_i htt
    split at h
    ·rename_i xv yw hx hy
     split at h
     ·rename_i q1 q2 q3 e e3
      split at h
      ·rename_i ti e4
       split at h
       ·rename_i ys hys
        split at h
        ·rename_i s0 xs hxs
         split at h
         ·rename_i hc
          simp only [Option.some.injEq,Prod.mk.injEq] at h
          obtain ⟨rfl,rfl,rfl,rfl⟩:=h
          refine ⟨hg,hd,by rw [hop]; rfl,rfl,fun f hf=>?_,dstA_has hxs,?_⟩
          ·simp only [ment,beq_eq_false_iff_ne]
           exact fun e=>hf e.symm
          ·unfold stepA
           simp only [hd,hN _ hd,if_true,hop,e1,e2,if_pos htt,opd_mono H hx,opd_mono H hy]
           unfold appA
           simp only [e3,e4,srcA_mono H hys,dstA_own H hxs,if_pos hc]
           rfl
         ·cases h
        ·cases h
       ·cases h
      ·cases h
     ·cases h
    ·cases h
   ·cases h
  ·cases h
 ·cases h
def appE (σ:St) (s d:Nat) (b:Blk) (v:V):St:={ σ with env:=put d v σ.env,blk:=put d b (rm s σ.blk) }
theorem appE_env (σ:St) (s d:Nat) (b:Blk) (v:V) (k:Nat):lk k (appE σ s d b v).env=if k=d then some v else lk k σ.env:=by simp only [appE,lk_put]
theorem appE_blk (σ:St) (s d:Nat) (b:Blk) (v:V) (t:Nat):lk t (appE σ s d b v).blk=if t=d then some b else if t=s then none else lk t σ.blk:=by simp only [appE,lk_put,lk_rm]
def drop1 (s:Nat):Option (Nat×V×Option Blk)->Option (Nat×V×Option Blk)
 | some (d,v,some b)=>if d=s then some (d,v,none) else some (d,v,some b)
 | x=>x
def dropS (s:Nat) (outs:List (Option (Nat×V×Option Blk))):List (Option (Nat×V×Option Blk)):=outs.map (drop1 s)
theorem drop1_some {s d:Nat} {v:V} {ob:Option Blk} {x:Option (Nat×V×Option Blk)} (h:drop1 s x=some (d,v,ob)):∃ ob',x=some (d,v,ob')/\(ob≠none->ob'=ob/\d≠s):=by
 match x,h with
 | none,h=>simp [drop1] at h
 | some (d',v',none),h =>
  simp only [drop1,Option.some.injEq,Prod.mk.injEq] at h
  obtain ⟨rfl,rfl,rfl⟩:=h
  exact ⟨none,rfl,fun h=>absurd rfl h⟩
 | some (d',v',some b),h =>
  simp only [drop1] at h
  split at h
  ·simp only [Option.some.injEq,Prod.mk.injEq] at h
   obtain ⟨rfl,rfl,rfl⟩:=h
   exact ⟨some b,rfl,fun h=>absurd rfl h⟩
  ·rename_i e
   simp only [Option.some.injEq,Prod.mk.injEq] at h
   obtain ⟨rfl,rfl,rfl⟩:=h
   exact ⟨some b,rfl,fun _=>⟨rfl,e⟩⟩
theorem drop1_of {s d:Nat} {v:V} {ob:Option Blk} (h:d≠s\/ob=none):drop1 s (some (d,v,ob))=some (d,v,ob):=by
 cases ob with
 | none=>rfl
 | some b=>simp [drop1,h.resolve_right (by simp)]
theorem dropS_get {s i:Nat} {outs:List (Option (Nat×V×Option Blk))}:(dropS s outs)[i]? = (outs[i]?).map (drop1 s):=by simp [dropS]
theorem afterO_app {s d:Nat} {b:Blk} {v:V}:∀ {outs:List (Option (Nat×V×Option Blk))} {σ τ:St},(∀ (j d':Nat) (v':V) (ob:Option Blk),outs[j]? = some (some (d',v',ob))->d'≠d)->(∀ k,lk k τ.env=if k=d then some v else lk k σ.env)->(∀ t,t≠s->lk t τ.blk=if t=d then some b else lk t σ.blk) ->
  (∀ k,lk k (afterO τ (dropS s outs)).env=if k=d then some v else lk k (afterO σ outs).env)/\∀ t,t≠s->lk t (afterO τ (dropS s outs)).blk=if t=d then some b else lk t (afterO σ outs).blk
 | [],σ,τ,_,h1,h2=>⟨h1,h2⟩
 | x :: r,σ,τ,hne,h1,h2=>by
  refine afterO_app (outs:=r) (σ:=addO σ x) (τ:=addO τ (drop1 s x)) (fun j d' v' ob hj=>hne (j+1) d' v' ob (by simpa using hj)) ?_ ?_
  ·intro k
   have key:∀ (d':Nat) (v':V),d'≠d->lk k (put d' v' τ.env)=if k=d then some v else lk k (put d' v' σ.env):=fun d' v' hd=>by
    rw [lk_put,lk_put,h1 k]
    by_cases e:k=d'
    ·subst e; simp [hd]
    ·simp [e]
   match x,hne with
   | none,_=>exact h1 k
   | some (d',v',none),hne=>exact key d' v' (hne 0 d' v' none rfl)
   | some (d',v',some b'),hne =>
    have:=hne 0 d' v' (some b') rfl
    simp only [drop1]
    split
    ·exact key d' v' this
    ·exact key d' v' this
  ·intro t ht
   match x,hne with
   | none,_=>exact h2 t ht
   | some (d',v',none),_=>exact h2 t ht
   | some (d',v',some b'),hne =>
    have:=hne 0 d' v' (some b') rfl
    simp only [drop1]
    split
    ·rename_i e
     have e2:t≠d':=fun e3=>ht (by rw [e3,e])
     simp only [addO,lk_put,if_neg e2]
     exact h2 t ht
    ·simp only [addO,lk_put,h2 t ht]
     by_cases e:t=d'
     ·subst e; simp [this]
     ·simp [e]
def flagsH (ops:List Oper) (n hh:Nat):List Bool:=(List.range n).map fun j=>decide (j≠hh)&&!((depTab ops []).getD hh 0).testBit j
theorem flagsH_get {ops:List Oper} {n hh j:Nat} (hj:j < n):(flagsH ops n hh)[j]? = some (decide (j≠hh)&&!((depTab ops []).getD hh 0).testBit j):=by
 simp [flagsH,hj]
theorem hole_sound (hT:TOk G) (hC:CtxOk G) (hpo:planOk ops.toList pl=true) (hnov:∀ j,overAt ops.toList pl j=false) {Q:Exit->Act->World->Prop} {ro:Option Nat} {rm:Nat} {σ':St} {hh:Nat} (hhl:hh < pl.length)
  (hY:YOk G C) (hQ:∀ M' a' w' μ' Fz' Fy',More C M'->Sim (C.withM M') σ' a' w' μ' Fz' Fy'->Q .normal a' w') (hN:∀ (i:Nat) (o:Oper) (d:Nat),i < pl.length->ops[i]? = some o->o.dst=some d->d < C.N)
  (ho1:outs.length=pl.length) (hoh:outs[hh]? = some none)
  (ho3:∀ (i:Nat) (e:List Nat×List Nat) (o:Oper) (out:Option (Nat×V×Option Blk)),i≠hh->pl[i]? = some e->ops[i]? = some o->outs[i]? = some out->StepFact G keep ops.toList (afterO σ0 (outs.take i)) o e out)
  (hn1:∀ (i:Nat) (o:Oper) (d:Nat),i < pl.length->ops[i]? = some o->o.dst=some d->overAt ops.toList pl i=false->lk d σ0.env=none)
  (hn2:∀ (i:Nat) (o:Oper) (d:Nat),i < pl.length->ops[i]? = some o->o.dst=some d->maker o.op=true->Fresh d σ0)
  {on:Oper} (hon:ops[hh]? = some on) {s d:Nat} {b:Blk} {v:V}
  (hst:appB G ⟨rmL (lateD ops.toList (flagsH ops.toList pl.length hh)) (afterO σ0 outs).env,rmL (lateD ops.toList (flagsH ops.toList pl.length hh)) (afterO σ0 outs).blk,[]⟩ on=some (s,d,b,v))
  (hL:∀ (i:Nat) (e:List Nat×List Nat) (o:Oper) (out:Option (Nat×V×Option Blk)),(flagsH ops.toList pl.length hh)[i]? = some true->pl[i]? = some e->ops[i]? = some o->(dropS s outs)[i]? = some out->AtFact G keep ops.toList (afterO (appE σ0 s d b v) ((dropS s outs).take i)) o e out)
  (ho2:runOps G keep C.N ops.toList (ops.toList.drop pl.length) (appE (afterO σ0 outs) s d b v)=some σ')
  (fuel:Nat) (listed:Array Bool) {τ:St} {a:Act} {w:World} {μ:Mu} {Fz Fy:Nat->Prop} (hs:listed.size=ops.size) (hcl:∀ i,On listed i->∀ x,((depTab ops.toList []).getD i 0).testBit x=true->On listed x)
  (hno:∀ i,pl.length<=i->i < ops.size->¬ On listed i) (hnh:¬ On listed hh) (hl:left ops.size listed<=fuel) (h:Sim C τ a w μ Fz Fy) (ht:Tog ops.toList pl σ0 outs (fun i=>i < pl.length/\On listed i) τ):wpAnyIn (FR ro) rm G.P .any ops Q fuel listed a w:=by
 have hp:=planOk_sound hpo
 have htl:=planOkM_tail hpo
 have hhs:hh < ops.size:=(Array.getElem?_eq_some_iff.1 hon).1
 have hπ:Le ⟨rmL (lateD ops.toList (flagsH ops.toList pl.length hh)) (afterO σ0 outs).env,rmL (lateD ops.toList (flagsH ops.toList pl.length hh)) (afterO σ0 outs).blk,[]⟩ (afterO σ0 outs):=by
  refine ⟨fun k u hk=>?_,fun t b' hb=>?_⟩
  ·rw [lk_rmL] at hk; split at hk
   ·simp at hk
   ·exact hk
  ·rw [lk_rmL] at hb; split at hb
   ·simp at hb
   ·exact hb
 obtain ⟨g1,g2,g3,g4,g5,g6,_⟩:=appB_step (keep:=keep) hπ (fun d hd=>hN hh on d hhl hon hd) hst
 have hov0:overAt ops.toList pl hh=false:=hnov hh
 have hw3:∀ (i:Nat) (e:List Nat×List Nat) (o:Oper) (out:Option (Nat×V×Option Blk)),pl[i]? = some e->ops[i]? = some o->outs[i]? = some out->WeakFact ops.toList pl i o e out:=fun i e o out he ho hout=>by
  by_cases e1:i=hh
  ·subst e1
   rw [hoh] at hout
   obtain rfl:none=out:=by simpa using hout
   rw [hon] at ho
   obtain rfl:on=o:=by simpa using ho
   exact ⟨d,g2,hov0⟩
  ·exact weak_of_step (pl:=pl) (i:=i) (by simpa using ho) he (ho3 i e o out e1 he ho hout)
 have hdst:∀ (i d':Nat) (v':V) (ob:Option Blk),outs[i]? = some (some (d',v',ob))->∃ (hi:i < pl.length) (hio:i < ops.size),(ops[i]'hio).dst=some d'/\(ob≠none->maker (ops[i]'hio).op=true)/\i≠hh/\d'≠d/\mentAny pl[i].2 v'=false/\blkMent pl[i].2 ob=false:=fun i d' v' ob hi=>by
  have hi':i < pl.length:=by rw [<-ho1]; exact (List.getElem?_eq_some_iff.1 hi).1
  have hne:i≠hh:=fun e=>by subst e; rw [hoh] at hi; simp at hi
  have hpn:pl.length<=ops.size:=by simpa using hp.len
  obtain ⟨d1,hd1,hr1⟩:=hw3 i pl[i] (ops[i]'(by omega)) _ (List.getElem?_eq_getElem hi') (Array.getElem?_eq_getElem _) hi
  simp only at hr1
  obtain ⟨r1,r2,r3,r4⟩:=hr1
  refine ⟨hi',by omega,by rw [r1]; exact hd1,r4,hne,fun e=>hne ?_,r2,r3⟩
  have hio:i < ops.size:=by omega
  exact hp.inj i hh ops[i] on hi' hhl (by simp [hio]) (by simpa using hon) (by rw [hd1,g2,<-e,r1])
 have hfr0:Fresh d σ0:=hn2 hh on d hhl hon g2 g3
 have hsd:s≠d:=fun e=>by
  cases hk:lk s (afterO σ0 outs).blk with
  | none =>
   apply g6
   cases hk2:lk s (rmL (lateD ops.toList (flagsH ops.toList pl.length hh)) (afterO σ0 outs).blk) with
   | none=>rfl
   | some b' =>
    have:=hπ.2 s b' hk2
    rw [hk] at this; cases this
  | some b' =>
   rcases afterO_blk hk with h3 | ⟨j,u,hj⟩
   ·rw [e,hfr0.none] at h3; cases h3
   ·exact (hdst j s u _ hj).2.2.2.2.2.1 e
 have hw3':∀ (i:Nat) (e:List Nat×List Nat) (o:Oper) (out:Option (Nat×V×Option Blk)),pl[i]? = some e->ops[i]? = some o->(dropS s outs)[i]? = some out->WeakFact ops.toList pl i o e out:=fun i e o out he ho hout=>by
  rw [dropS_get,Option.map_eq_some_iff] at hout
  obtain ⟨x,hx,rfl⟩:=hout
  obtain ⟨d',hd',hr⟩:=hw3 i e o x he ho hx
  refine ⟨d',hd',?_⟩
  match x,hr with
  | none,hr=>exact hr
  | some (d2,v2,none),hr=>exact hr
  | some (d2,v2,some b2),hr =>
   by_cases e3:d2=s
   ·rw [show drop1 s (some (d2,v2,some b2))=some (d2,v2,none) by simp [drop1,e3]]
    exact ⟨hr.1,hr.2.1,rfl,fun h=>absurd rfl h⟩
   ·rw [drop1_of (.inl e3)]
    exact hr
 have main:∀ (fuel:Nat) (listed:Array Bool) {τ:St} {a:Act} {w:World} {μ:Mu} {Fz Fy:Nat->Prop},listed.size=ops.size->(∀ i,On listed i->∀ x,((depTab ops.toList []).getD i 0).testBit x=true->On listed x) ->
   (∀ i,pl.length<=i->i < ops.size->(On listed i↔i < pl.length))->¬ On listed hh->left ops.size (listed.setIfInBounds hh true)<=fuel->Sim C τ a w μ Fz Fy->Tog ops.toList pl σ0 outs (fun i=>i < pl.length/\On listed i) τ ->
   (∀ x,((depTab ops.toList []).getD hh 0).testBit x=true->On listed x)->wpOpIn (FR ro) rm G.P ops Q hh (wpAnyIn (FR ro) rm G.P .any ops Q fuel (listed.setIfInBounds hh true)) a w:=by
  intro fuel listed τ a w μ Fz Fy hs hcl hno hnh hf h ht hdep
  have hlate:∀ j,j < pl.length->j≠hh->On listed j\/(flagsH ops.toList pl.length hh)[j]? = some true:=fun j hj hjh=>by
   cases hb:((depTab ops.toList []).getD hh 0).testBit j with
   | true=>exact .inl (hdep j hb)
   | false=>exact .inr (by rw [flagsH_get hj,hb]; simp [hjh])
  have hle:Le ⟨rmL (lateD ops.toList (flagsH ops.toList pl.length hh)) (afterO σ0 outs).env,rmL (lateD ops.toList (flagsH ops.toList pl.length hh)) (afterO σ0 outs).blk,[]⟩ τ:=by
   refine ⟨fun k u hk=>?_,fun t b' hb=>?_⟩
   ·rw [lk_rmL] at hk
    split at hk
    ·simp at hk
    ·rename_i hnl
     rcases afterO_env' hk with ⟨h3,_⟩ | ⟨j,ob,hj⟩
     ·rcases ht.base k u h3 with ⟨j,_,hov,_⟩ | h4
      ·rw [hnov j] at hov; simp at hov
      ·exact h4
     ·obtain ⟨hj',hjs,k3,_,k5,_⟩:=hdst j k u ob hj
      rcases hlate j hj' k5 with hx | hx
      ·exact (ht.has j k u ob ⟨hj',hx⟩ hj).1
      ·exact absurd (lateD_mem (by simp [hjs]) hx k3) hnl
   ·rw [lk_rmL] at hb
    split at hb
    ·simp at hb
    ·rename_i hnl
     rcases afterO_blk hb with h3 | ⟨j,u,hj⟩
     ·exact ht.bblk t b' h3
     ·obtain ⟨hj',hjs,k3,_,k5,_⟩:=hdst j t u _ hj
      rcases hlate j hj' k5 with hx | hx
      ·exact (ht.has j t u (some b') ⟨hj',hx⟩ hj).2 b' rfl
      ·exact absurd (lateD_mem (by simp [hjs]) hx k3) hnl
  obtain ⟨_,_,_,_,_,_,hsa⟩:=appB_step (keep:=keep) hle (fun d hd=>hN hh on d hhl hon hd) hst
  have hsp:∀ j d2 v2 ob2,On listed j->outs[j]? = some (some (d2,v2,ob2))->ment 5 d v2=false/\∀ b,ob2=some b->∀ y∈bcells b,ment 5 d y=false:=fun j d2 v2 ob2 hjon hjo=>by
   obtain ⟨hj,hjs,k3,_,k5,k6,k7,k8⟩:=hdst j d2 v2 ob2 hjo
   have hin:d∈pl[j].2:=by
    rcases hp.hides j hh pl[j] on d (List.getElem?_eq_getElem hj) hhl (by simpa using hon) g2 g3 with h4 | h4 | h4
    ·exact absurd (hcl j hjon hh h4) hnh
    ·exact absurd h4 k5
    ·exact h4
   refine ⟨?_,fun cells hc y hy=>?_⟩
   ·simp only [mentAny,List.any_eq_false] at k7
    simpa using k7 d hin
   ·subst hc
    simp only [blkMent,List.any_eq_false] at k8
    have:=k8 y hy
    simp only [mentAny,Bool.not_eq_true,List.any_eq_false] at this
    simpa using this d hin
  have hfτ:Fresh d τ:=by
   refine { env:=fun k u hk=>?_,box:=fun t cells hb y hy=>?_,none:=?_ }
   ·rcases ht.env k u hk with h3 | ⟨j,⟨hj,hjon⟩,ob2,hjo⟩
    ·exact hfr0.env k u h3
    ·exact (hsp j k u ob2 hjon hjo).1
   ·rcases ht.blk t _ hb with h3 | ⟨j,⟨hj,hjon⟩,v2,hjo⟩
    ·exact hfr0.box t cells h3 y hy
    ·exact (hsp j t v2 _ hjon hjo).2 cells rfl y hy
   ·cases hk:lk d τ.blk with
    | none=>rfl
    | some b' =>
     rcases ht.blk d b' hk with h3 | ⟨j,⟨hj,hjon⟩,v2,hjo⟩
     ·rw [hfr0.none] at h3; simp at h3
     ·exact absurd rfl (hdst j d v2 _ hjo).2.2.2.2.2.1
  have hfd:Fresh d (τ.drop s):=by
   refine { env:=hfτ.env,box:=fun t cells hb y hy=>?_,none:=?_ }
   ·simp only [St.drop,lk_rm] at hb
    split at hb
    ·simp at hb
    ·exact hfτ.box t cells hb y hy
   ·simp only [St.drop,lk_rm]
    split
    ·rfl
    ·exact hfτ.none
  have henv':∀ k,lk k ((τ.drop s).mk' d b v).env=if k=d then some v else lk k τ.env:=fun k=>by rw [mk'_env hfd]; rfl
  have hblk':∀ t,lk t ((τ.drop s).mk' d b v).blk=if t=d then some b else if t=s then none else lk t τ.blk:=fun t=>by
   rw [mk'_blk hfd]
   simp only [St.drop,lk_rm]
  unfold wpOpIn
  simp only [hon]
  rw [if_pos (guardA_sound (ops:=ops) h (by simp [guardA,g1]))]
  refine oper_in (stepA_nodefer hsa) (stepA_sound hT hC h hsa fun a' w' μ' Fz' Fy' h'=>?_)
  have hback:=afterO_app (s:=s) (d:=d) (b:=b) (v:=v) (outs:=outs) (σ:=σ0) (τ:=appE σ0 s d b v) (fun j d' v' ob hj=>(hdst j d' v' ob hj).2.2.2.2.2.1) (appE_env σ0 s d b v) (fun t ht=>by rw [appE_blk,if_neg ht])
  have hle2:Le (appE (afterO σ0 outs) s d b v) (afterO (appE σ0 s d b v) (dropS s outs)):=⟨fun k u hk=>by rw [hback.1,<-appE_env]; exact hk,fun t b' hb=>by
   rw [appE_blk] at hb
   by_cases e:t=d
   ·rw [hback.2 t (fun e2=>hsd (e2▸e)),if_pos e]
    rw [if_pos e] at hb; exact hb
   ·rw [if_neg e] at hb
    by_cases e2:t=s
    ·rw [if_pos e2] at hb; cases hb
    ·rw [if_neg e2] at hb
     rw [hback.2 t e2,if_neg e]; exact hb⟩
  have ho1':(dropS s outs).length=pl.length:=by simp [dropS,ho1]
  have h1:=hhs
  have hnd:∀ (j:Nat) (o:Oper) (d':Nat),(flagsH ops.toList pl.length hh)[j]? = some true->j < pl.length->ops[j]? = some o->o.dst=some d'->d'≠d:=fun j o d' hjw hj ho hd e=>by
   rw [flagsH_get hj] at hjw
   have hjh:j=hh:=hp.inj j hh o on hj hhl (by simpa using ho) (by simpa using hon) (by rw [hd,g2,e])
   simp [hjh] at hjw
  have htr:(appE (afterO σ0 outs) s d b v).tr=(appE σ0 s d b v).tr:=afterO_tr outs σ0
  have hon':∀ j,On (listed.setIfInBounds hh true) j↔j=hh\/On listed j:=fun j=>on_set hs h1
  refine front_genX (keep:=keep) (σ0:=appE σ0 s d b v) (outs:=dropS s outs) (m0:=pl.length) hT hC hp (fun j=>(flagsH ops.toList pl.length hh)[j]? = some true) (fun _=>False) hY hQ hN ho1' hw3'
   (fun fuel listed τ a w μ Fz Fy hs hcl hno _ hf h ht hall=>end_sound hT hC hp hY hQ ho1' (Nat.le_refl _) (by simpa using hp.len) hle2 htr ho2 hw3' fuel listed hs hcl hno hf h ht hall)
   (fun j e o out hj he ho hout=>⟨_,_,.inl rfl,⟨fun _ _ x=>x,fun _ _ x=>x⟩,hL j e o out hj he ho hout⟩) (fun j o d' hjw hj ho hd hov'=>?_) (fun j o d' hjw hj ho hd hm=>?_) (fun fuel listed τ a w μ Fz Fy i hs hcl hno _ hf h ht hj hi hdep hip h1=>?_) fuel _ (by simpa using hs) (fun j hj x hx=>?_) (fun j hj hj2=>?_) (fun _ hx=>hx.elim) (fun j hj=>?_) hf h' ?_
  ·rw [appE_env,if_neg (hnd j o d' hjw hj ho hd)]
   exact hn1 j o d' hj ho hd hov'
  ·have hne:=hnd j o d' hjw hj ho hd
   have hf0:=hn2 j o d' hj ho hd hm
   refine { env:=fun k u hk=>?_,box:=fun t cells hb y hy=>?_,none:=?_ }
   ·rw [appE_env] at hk
    split at hk
    ·simp only [Option.some.injEq] at hk
     subst hk
     exact g5 d' hne
    ·exact hf0.env k u hk
   ·rw [appE_blk] at hb
    split at hb
    ·simp only [Option.some.injEq] at hb
     subst hb
     rw [g4] at hy
     cases hy
    ·split at hb
     ·cases hb
     ·exact hf0.box t cells hb y hy
   ·rw [appE_blk,if_neg hne]
    split
    ·rfl
    ·exact hf0.none
  ·obtain ⟨j0,hj0,hj0u⟩:=hj
   rcases hip with hip | hx
   ·exact absurd (hdep j0 (htl i hip (by simpa using h1) j0 (by omega))) hj0u
   ·exact hx.elim
  ·rw [hon'] at hj ⊢
   rcases hj with rfl | hj
   ·exact .inr (hdep x hx)
   ·exact .inr (hcl j hj x hx)
  ·rw [hon',<-hno j hj hj2]
   exact ⟨fun hx=>hx.resolve_left (by omega),.inr⟩
  ·rw [hon']
   by_cases e:j=hh
   ·exact .inl (.inl e)
   ·exact (hlate j hj e).imp (fun hx=>.inr hx) .inl
  ·refine { tr:=ht.tr,base:=fun k u hk=>?_,bblk:=fun t b' hb=>?_,has:=fun j d' u ob hj hjo=>?_,env:=fun k u hk=>?_,blk:=fun t b' hb=>?_ }
   ·rw [appE_env] at hk
    rw [henv']
    by_cases e:k=d
    ·rw [if_pos e] at hk ⊢; exact .inr hk
    ·rw [if_neg e] at hk ⊢
     exact (ht.base k u hk).imp (fun ⟨j,hj,r⟩=>⟨j,⟨hj.1,(hon' j).2 (.inr hj.2)⟩,r⟩) id
   ·rw [appE_blk] at hb
    rw [hblk']
    by_cases e:t=d
    ·rw [if_pos e] at hb ⊢; exact hb
    ·rw [if_neg e] at hb ⊢
     by_cases e2:t=s
     ·rw [if_pos e2] at hb; cases hb
     ·rw [if_neg e2] at hb ⊢; exact ht.bblk t b' hb
   ·rw [dropS_get,Option.map_eq_some_iff] at hjo
    obtain ⟨x,hx,hjo⟩:=hjo
    obtain ⟨ob',rfl,hob⟩:=drop1_some hjo
    obtain ⟨k1,_,_,k4,k5,k6,_⟩:=hdst j d' u ob' hx
    have hjon:On listed j:=((hon' j).1 hj.2).resolve_left k5
    obtain ⟨q1,q2⟩:=ht.has j d' u ob' ⟨k1,hjon⟩ hx
    refine ⟨by rw [henv',if_neg k6]; exact q1,fun b' hb=>?_⟩
    obtain ⟨rfl,hds⟩:=hob (by rw [hb]; simp)
    rw [hblk',if_neg k6,if_neg hds]
    exact q2 b' hb
   ·rw [henv'] at hk
    rw [appE_env]
    by_cases e:k=d
    ·rw [if_pos e] at hk ⊢; exact .inl hk
    ·rw [if_neg e] at hk ⊢
     exact (ht.env k u hk).imp id fun ⟨j,hj,ob,r⟩=>⟨j,⟨hj.1,(hon' j).2 (.inr hj.2)⟩,by
      rw [dropS_get,r]
      cases ob with
      | none=>exact ⟨none,rfl⟩
      | some b2 =>
       simp only [Option.map_some,drop1]
       split
       ·exact ⟨none,rfl⟩
       ·exact ⟨some b2,rfl⟩⟩
   ·rw [hblk'] at hb
    rw [appE_blk]
    by_cases e:t=d
    ·rw [if_pos e] at hb ⊢; exact .inl hb
    ·rw [if_neg e] at hb ⊢
     by_cases e2:t=s
     ·rw [if_pos e2] at hb; cases hb
     ·rw [if_neg e2] at hb ⊢
      exact (ht.blk t b' hb).imp id fun ⟨j,hj,u,r⟩=>⟨j,⟨hj.1,(hon' j).2 (.inr hj.2)⟩,u,by rw [dropS_get,r,Option.map_some,drop1_of (.inl e2)]⟩
 refine front_genX (keep:=keep) (m0:=pl.length) hT hC hp (fun j=>j≠hh) (fun j=>j=hh) hY hQ hN ho1 hw3 (fun fuel listed τ a w μ Fz Fy hs hcl hno hX hf h ht hall=>absurd (hall hh hhl) (hX hh rfl))
  (fun i e o out hi he ho hout=>⟨_,_,.inl rfl,⟨fun _ _ x=>x,fun _ _ x=>x⟩,at_of_step (ho3 i e o out hi he ho hout)⟩) (fun i o d _=>hn1 i o d) (fun i o d _=>hn2 i o d)
  (fun fuel listed τ a w μ Fz Fy i hs hcl hno hX hf h ht hj hi hdep hip h1=>?_) fuel listed hs hcl (fun i hi hi2=>⟨fun hx=>absurd hx (hno i hi hi2),fun hx=>by omega⟩) (fun i hi=>hi▸hnh) (fun i _=>.inr (by by_cases e:i=hh; exact .inr e; exact .inl e)) hl h ht
 rcases hip with hip | rfl
 ·obtain ⟨j0,hj0,hj0u⟩:=hj
  exact absurd (hdep j0 (htl i hip (by simpa using h1) j0 (by omega))) hj0u
 ·exact main fuel listed hs hcl hno (hX i rfl) hf h ht hdep
def passA (G:Pg) (keep:List Nat) (ops:List Oper) (hh:Nat):Nat->Plan->List Oper->St->Option (List (Option (Nat×V×Option Blk)))
 | _,[],_,_=>some []
 | i,(ts,fs) :: pl,o :: r,σ=>if i=hh then (passA G keep ops hh (i+1) pl r σ).map (none :: ·) else match o.dst with
  | some d=>match guardA ops ⟨pk σ.env ts,[],[]⟩ o with
   | some true=>match addA G keep ⟨pk σ.env ts,rmL fs σ.blk,[]⟩ d o.type o.op with
    | some (v,ob)=>if (mentAny fs v||blkMent fs ob)=false then (passA G keep ops hh (i+1) pl r (addO σ (some (d,v,ob)))).map (some (d,v,ob) :: ·) else none
    | none=>none
   | some false=>(passA G keep ops hh (i+1) pl r (addO σ (some (d,.tup [],none)))).map (some (d,.tup [],none) :: ·)
   | none=>none
  | none=>none
 | _,_,[],_=>none
theorem passA_outs {G:Pg} {keep:List Nat} {ops:List Oper} {hh:Nat}:∀ (pl:Plan) (k:Nat) (r:List Oper) (σ:St) (outs:List (Option (Nat×V×Option Blk))),passA G keep ops hh k pl r σ=some outs ->
  outs.length=pl.length/\(∀ i,i < pl.length->k+i=hh->outs[i]? = some none)/\∀ (i:Nat) (e:List Nat×List Nat) (o:Oper) (out:Option (Nat×V×Option Blk)),k+i≠hh->pl[i]? = some e->r[i]? = some o->outs[i]? = some out->StepFact G keep ops (afterO σ (outs.take i)) o e out
 | [],k,r,σ,outs,h=>by
  simp only [passA,Option.some.injEq] at h
  subst h
  exact ⟨rfl,fun i hi=>by simp at hi,fun i e o out _ he=>by simp at he⟩
 | (ts,fs) :: pl,k,[],σ,outs,h=>by simp [passA] at h
 | (ts,fs) :: pl,k,o :: r,σ,outs,h=>by
  have more:∀ (x:Option (Nat×V×Option Blk)),(passA G keep ops hh (k+1) pl r (addO σ x)).map (x :: ·)=some outs->(k=hh->x=none)->(k≠hh->StepFact G keep ops σ o (ts,fs) x) ->
    outs.length=(((ts,fs) :: pl:Plan)).length/\(∀ i,i < (((ts,fs) :: pl:Plan)).length->k+i=hh->outs[i]? = some none)/\∀ (i:Nat) (e:List Nat×List Nat) (o':Oper) (out:Option (Nat×V×Option Blk)),k+i≠hh->(((ts,fs) :: pl:Plan))[i]? = some e->(o :: r)[i]? = some o'->outs[i]? = some out->StepFact G keep ops (afterO σ (outs.take i)) o' e out:=by
   intro x hx hxn hxs
   rw [Option.map_eq_some_iff] at hx
   obtain ⟨outs',hx,rfl⟩:=hx
   obtain ⟨h1,h2,h3⟩:=passA_outs pl (k+1) r _ outs' hx
   refine ⟨by simp [h1],fun i hi hk=>?_,fun i e o' out hk he ho hout=>?_⟩
   ·cases i with
    | zero=>simp [hxn hk]
    | succ i =>
     have:=h2 i (by simpa using hi) (by omega)
     simpa using this
   ·cases i with
    | zero =>
     simp only [List.getElem?_cons_zero,Option.some.injEq] at he ho hout
     subst he; subst ho; subst hout
     exact hxs hk
    | succ i =>
     have:=h3 i e o' out (by omega) (by simpa using he) (by simpa using ho) (by simpa using hout)
     simpa [afterO] using this
  simp only [passA] at h
  split at h
  ·rename_i e
   exact more none h (fun _=>rfl) (fun h'=>absurd e h')
  ·rename_i e
   split at h
   ·rename_i d hd
    split at h
    ·rename_i hg
     split at h
     ·rename_i v ob ha
      split at h
      ·rename_i hm
       simp only [Bool.or_eq_false_iff] at hm
       exact more _ h (fun h'=>absurd h' e) (fun _=>⟨d,hd,rfl,hm.1,hm.2,.inl ⟨hg,ha⟩⟩)
      ·cases h
     ·cases h
    ·rename_i hg
     exact more _ h (fun h'=>absurd h' e) (fun _=>⟨d,hd,rfl,by simp [mentAny,ment],rfl,.inr ⟨hg,rfl,rfl⟩⟩)
    ·cases h
   ·cases h
def passB (G:Pg) (keep:List Nat) (ops:List Oper):Plan->List Oper->List (Option (Nat×V×Option Blk))->List Bool->St->Prop
 | e :: pl,o :: r,x :: outs,f :: fs,ρ=>(f=true->AtFact G keep ops ρ o e x)/\passB G keep ops pl r outs fs (addO ρ x)
 | _,_,_,_,_=>True
theorem passB_get {G:Pg} {keep:List Nat} {ops:List Oper}:∀ {pl:Plan} {r:List Oper} {outs:List (Option (Nat×V×Option Blk))} {fs:List Bool} {ρ:St},passB G keep ops pl r outs fs ρ ->
  ∀ (i:Nat) (e:List Nat×List Nat) (o:Oper) (out:Option (Nat×V×Option Blk)),fs[i]? = some true->pl[i]? = some e->r[i]? = some o->outs[i]? = some out->AtFact G keep ops (afterO ρ (outs.take i)) o e out
 | e :: pl,o :: r,x :: outs,f :: fs,ρ,h,i,e',o',out,hf,he,ho,hout=>by
  cases i with
  | zero =>
   simp only [List.getElem?_cons_zero,Option.some.injEq] at hf he ho hout
   subst hf; subst he; subst ho; subst hout
   exact h.1 rfl
  | succ i =>
   have:=passB_get h.2 i e' o' out (by simpa using hf) (by simpa using he) (by simpa using ho) (by simpa using hout)
   simpa [afterO] using this
 | [],_,_,_,_,_,i,e',o',out,_,he,_,_=>by simp at he
 | _ :: _,[],_,_,_,_,i,e',o',out,_,_,ho,_=>by simp at ho
 | _ :: _,_ :: _,[],_,_,_,i,e',o',out,_,_,_,hout=>by simp at hout
 | _ :: _,_ :: _,_ :: _,[],_,_,i,e',o',out,hf,_,_,_=>by simp at hf
open Classical in
noncomputable def holeP (G:Pg) (keep:List Nat) (N:Nat) (ops:List Oper) (pl:Plan) (hh:Nat) (σ:St):Option St :=
 match passA G keep ops hh 0 pl ops (prep (dstsP ops pl) (makers ops pl.length) σ),ops[hh]? with
 | some outs,some o=>match appB G ⟨rmL (lateD ops (flagsH ops pl.length hh)) (afterO (prep (dstsP ops pl) (makers ops pl.length) σ) outs).env,rmL (lateD ops (flagsH ops pl.length hh)) (afterO (prep (dstsP ops pl) (makers ops pl.length) σ) outs).blk,[]⟩ o with
  | some (s,d,b,v)=>if passB G keep ops pl ops (dropS s outs) (flagsH ops pl.length hh) (appE (prep (dstsP ops pl) (makers ops pl.length) σ) s d b v) then runOps G keep N ops (ops.drop pl.length) (appE (afterO (prep (dstsP ops pl) (makers ops pl.length) σ) outs) s d b v) else none
  | none=>none
 | _,_=>none
def planHole (ops:List Oper) (pl:Plan) (hh:Nat):Bool:=planOk ops pl&&decide (hh < pl.length)&&(List.range ops.length).all fun j=>!overAt ops pl j
noncomputable def drawH (T:List (Nat×Plan)) (Hs:List (Nat×Nat)) (G:Pg) (L:Live) (N:Nat):Drawer:=fun id ops σ =>
 match lk id Hs with
 | none=>drawT T G L N id ops σ
 | some hh=>match lk id T with
  | none=>none
  | some pl=>if (planHole ops pl hh&&(dsts ops pl.length).all fun d=>decide (d < N))=true then holeP G (kof L id).1 N ops pl hh σ else none
theorem drawOkH (hT:TOk G) (hC:CtxOk G) (hmix:G.P.follows .mixedOrders=true) (T:List (Nat×Plan)) (Hs:List (Nat×Nat)) (L:Live) (N:Nat):DrawOk G N (drawH T Hs G L N):=by
 intro C ro rm ops id σ σ' a w μ Fz Fy Q hCN hY hD h hQ
 unfold drawH at hD
 split at hD
 ·exact drawOk hT hC hmix T L N C ro rm ops id σ σ' a w μ Fz Fy Q hCN hY hD h hQ
 ·rename_i hh _
  subst hCN
  have hw:Stays C σ w { w with drawn:=w.drawn+1 } μ Fy:=Stays.of_below h ⟨rfl,rfl,rfl,Nat.le_refl _,fun _ _=>rfl,Nat.le_succ _⟩
  have hoff:∀ i,¬ On (Array.replicate ops.size false) i:=fun i=>by
   simp only [On,Array.getD_eq_getD_getElem?,Array.getElem?_replicate]
   split<;>simp
  split at hD
  ·cases hD
  ·rename_i pl _
   split at hD
   ·rename_i hc
    simp only [planHole,Bool.and_eq_true,List.all_eq_true,decide_eq_true_eq,List.mem_range,Bool.not_eq_true'] at hc
    obtain ⟨⟨⟨hpl,hhl⟩,hov⟩,hN⟩:=hc
    have hnov:∀ j,overAt ops.toList pl j=false:=fun j=>by
     by_cases hj:j < ops.toList.length
     ·exact hov j hj
     ·unfold overAt
      rw [List.getElem?_eq_none (Nat.le_of_not_lt hj)]
    refine wpIn_region_any hmix ?_
    unfold holeP at hD
    split at hD
    ·rename_i outs on hf hon
     split at hD
     ·rename_i s d b v hst
      split at hD
      ·rename_i hcc
       obtain ⟨ho1,hoh,ho3⟩:=passA_outs pl 0 _ _ _ hf
       have hleft:left ops.size (Array.replicate ops.size false)<=ops.size:=Nat.le_trans (List.length_filter_le _ _) (by simp)
       exact hole_sound (keep:=(kof L id).1) hT hC hpl hnov hhl hY hQ (fun i o d hi ho hd=>hN d (mem_dsts hi (by simpa using ho) hd)) ho1 (hoh hh hhl (by omega)) (fun i e o out hi he ho hout=>ho3 i e o out (by omega) he (by simpa using ho) hout)
        (fun i o d hi ho hd hov'=>prep_env (by
         have hpi:=List.getElem?_eq_getElem hi
         refine mem_dstsP (i:=i) (o:=o) (e:=pl[i]) (by simpa using ho) hpi hd ?_
         unfold overAt at hov'
         rw [show ops.toList[i]? = some o by simpa using ho,hpi] at hov'
         exact hov'))
        (fun i o d hi ho hd hm=>prep_fresh (mem_makers hi (by simpa using ho) hd hm)) (by simpa using hon) hst (fun i e o out hfl he ho hout=>passB_get hcc i e o out hfl he (by simpa using ho) hout) hD ops.size _ (by simp) (fun i hi=>absurd hi (hoff i)) (fun i _ _=>hoff i) (hoff hh) hleft
        ((h.stays hw).prep (dstsP ops.toList pl) (makers ops.toList pl.length)) { tr:=rfl,base:=fun _ _ h=>.inr h,bblk:=fun _ _ h=>h,has:=fun j d v ob hj=>absurd hj.2 (hoff j),env:=fun k u hk=>.inl hk,blk:=fun s b hb=>.inl hb }
      ·cases hD
     ·cases hD
    ·cases hD
   ·cases hD
end
theorem valid_of_evH {G:Pg} (hT:TOk G) (hC:CtxOk G) (hmix:G.P.follows .mixedOrders=true) {k:FuncId} {fn:Func} (hf:G.P.funcs[k]? = some fn) (T:List (Nat×Plan)) (Hs:List (Nat×Nat)) (L:Live)
  {args:List (Bool×FV)} {res:List TV} (hargs:args.length<=fn.ntmps/\fn.ntmps<=90000)
  (h:∃ c,fn.body=some c/\Ev (exec G L fn.ntmps (drawH T Hs G L fn.ntmps) R c (initSt args)) (fun e σ=>(e = .normal\/e = .ret)/\∃ vs,slotsA G σ fn.results.toList=some vs/\retsA σ [] vs=some res)) (hyl:G.yl=none:=by rfl):Valid G.P k args res:=by
 obtain ⟨c,hb,hx⟩:=h
 obtain ⟨e,σ,h1,h2,vs,h3,h4⟩:=hx.get
 exact valid_of_exec hT hC hyl hf hb (D:=drawH T Hs G L fn.ntmps) (drawOkH hT hC hmix T Hs L fn.ntmps) R hargs h1 h2 h3 h4
section
variable {G:Pg} {L:Live} {N n id:Nat} {σ σ':St} {Q:Ex->St->Prop} {ops:Array Oper}
theorem ev_drwH {T:List (Nat×Plan)} {Hs:List (Nat×Nat)} {pl:Plan} (h1:lk id Hs=none) (h2:lk id T=some pl)
  (h3:planOk ops.toList pl=true) (h4:((dsts ops.toList pl.length).all fun d=>decide (d < N))=true) (h5:finO (kof L id) (drawP G (kof L id).1 N ops.toList pl σ)=some σ') (h6:Q .normal σ') :
  Ev (exec G L N (drawH T Hs G L N) n (.region id ops true) σ) Q:=by
 obtain ⟨τ,h5',rfl⟩:=finO_eq h5
 have e:drawH T Hs G L N id ops.toList σ=some τ:=by
  unfold drawH drawT
  rw [h1]
  simp only [h2,h3,h4,Bool.and_self,if_true]
  exact h5'
 simp only [exec,e,if_true]
 unfold Ev
 exact h6
theorem ev_hole {T:List (Nat×Plan)} {Hs:List (Nat×Nat)} {pl:Plan} {hh:Nat} (h1:lk id Hs=some hh) (h2:lk id T=some pl)
  (h3:planHole ops.toList pl hh=true) (h4:((dsts ops.toList pl.length).all fun d=>decide (d < N))=true) {fs:List Bool} (hfs:flagsH ops.toList pl.length hh=fs)
  {on:Oper} (hon:ops.toList[hh]? = some on) {σp:St} (hp:prep (dstsP ops.toList pl) (makers ops.toList pl.length) σ=σp) {outs:List (Option (Nat×V×Option Blk))} (ha:passA G (kof L id).1 ops.toList hh 0 pl ops.toList σp=some outs)
  {σf:St} (hf:afterO σp outs=σf) {s d:Nat} {b:Blk} {v:V} (hst:appB G ⟨rmL (lateD ops.toList fs) σf.env,rmL (lateD ops.toList fs) σf.blk,[]⟩ on=some (s,d,b,v))
  (hB:passB G (kof L id).1 ops.toList pl ops.toList (dropS s outs) fs (appE σp s d b v))
  (h5:finO (kof L id) (runOps G (kof L id).1 N ops.toList (ops.toList.drop pl.length) (appE σf s d b v))=some σ') (h6:Q .normal σ') :
  Ev (exec G L N (drawH T Hs G L N) n (.region id ops true) σ) Q:=by
 obtain ⟨τ,h5',rfl⟩:=finO_eq h5
 subst hfs
 subst hp
 subst hf
 have e:drawH T Hs G L N id ops.toList σ=some τ:=by
  unfold drawH
  rw [h1]
  simp only [h2]
  rw [if_pos (by rw [h3,h4]; rfl)]
  unfold holeP
  rw [ha,hon]
  simp only [hst]
  rw [if_pos hB]
  exact h5'
 simp only [exec,e,if_true]
 unfold Ev
 exact h6
attribute [simp] passA passB appB appE AtFact afterO dropS drop1
end
end Go.Proofs.YtejodhjhddnbeaaDoor.E
