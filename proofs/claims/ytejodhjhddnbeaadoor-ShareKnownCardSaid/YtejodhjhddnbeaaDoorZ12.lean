/-
  The chapter of the share: its functions, and what they compute. Conditions: none.
-/
import Derived.Test.YtejodhjhddnbeaaDoorZ11
import Derived.Test.YtejodhjhddnbeaaDoorZ07
set_option linter.unusedVariables false
set_option linter.unusedSimpArgs false
namespace Go.Proofs.YtejodhjhddnbeaaDoor.E
open Go Go.RowKit
@[simp] theorem ment_yv (n s:Nat):ment (n+1) s .yv=false:=rfl
@[simp] theorem killV_yv (ns:List Nat):killV ns .yv = .yv:=by simp [killV]
@[simp] theorem renV_yv (s k n:Nat):renV s k (n+1) .yv = .yv:=rfl
theorem itH_of_ev {G:Pg} (hT:TOk G) (hC:CtxOk G) (hmix:G.P.follows .mixedOrders=true) {zs:List (List FV)} {st:Option Nat} (hyl:G.yl=some (some zs,st)) {k:FuncId} {fn:Func} (hf:G.P.funcs[k]? = some fn) (T:List (Nat×Plan)) (L:Live)
  {bs:List (Nat×Blk)} {caps:List V} (hargs:caps.length+1<=fn.ntmps/\fn.ntmps<=90000)
  (h:∃ c,fn.body=some c/\Ev (exec G L fn.ntmps (drawT T G L fn.ntmps) R c (initStH bs caps)) (fun e σ=>(e = .normal\/e = .ret)/\σ.tr.length=zs.length/\∃ vs,slotsA G σ fn.results.toList=some vs)):ItH G.P k bs caps zs st:=by
 obtain ⟨c,hb,hx⟩:=h
 obtain ⟨e,σ,h1,h2,h3,vs,h4⟩:=hx.get
 exact it_of_execH hT hC hyl hf hb (D:=drawT T G L fn.ntmps) (drawOk hT hC hmix T L fn.ntmps) R hargs h1 h2 h3 h4
theorem itH_order {P:Program} {k:FuncId} {bs bs':List (Nat×Blk)} {caps:List V} {zs:List (List FV)} {st:Option Nat} (h:ItH P k bs caps zs st) (e:∀ s,lk s bs'=lk s bs):ItH P k bs' caps zs st:=by
 have hs:shs ⟨[],bs',[]⟩=shs ⟨[],bs,[]⟩:=by funext s; simp [shs,e]
 intro W Fz Fy M0 μ vs y h1 h2 h3 h4 h5 h6 h7 h8 h9 h10 h11 h12 h13 h14
 rw [hs] at h6
 exact h W Fz Fy M0 μ vs y h1 h2 h3 (by rw [<-e]; exact h4) h5 h6 (fun s b hb=>by rw [<-hs]; exact h7 s b (by rw [e]; exact hb)) (fun s hb=>h8 s (by rw [e]; exact hb)) (fun s t h1 h2=>h9 s t (by rw [e]; exact h1) (by rw [e]; exact h2)) h10 h11 h12 h13 h14
section
variable {G:Pg} {L:Live} {N n id:Nat} {D:Drawer} {σ:St} {Q:Ex->St->Prop}
theorem ev_rangeH {g : Operand} {ps : Array Tmp} {assign body : Code} {f : V} {ns : List Nat} {ro : Bool} {k k' : FuncId} {caps : List FV} {bs : List (Nat × Blk)} {caps' : List V} {xs : List (List FV)} (hf : opd σ g = some f) (hz : frz σ 6 f = some (ns,ro,.fn (.func k) [] caps)) (hi : G.itr k (caps.map fun c => (ro,c)) = none)
    (hh : handO σ ns f = some (k',bs,caps')) (hx : G.itrH k' bs caps' = some xs)
    {α : Type} (S : α → St) (I : Nat → α → Prop) (x0 : α) (h0 : frees σ ns = S x0) (hI : I 0 x0)
    (h : ∀ (i : Nat) (hi : i < xs.length) (x : α),I i x → ∃ env,bindP N ps.toList xs[i] (S x).enter.env = some env ∧ Ev (exec G L N D n assign { (S x).enter with env := env }) (fun e τ => e = .normal ∧ Ev (exec G L N D n body τ) (fun e τ => e = .normal ∧ ∃ y,τ.leave = S y ∧ I (i + 1) y)))
    (hend : ∀ x,I xs.length x → Q .normal (S x)) : Ev (exec G L N D n (.rangeFunc g ps assign body) σ) Q := by
  simp only [exec,hf,hz,hi,hh,hx]
  generalize hF : (fun τ => match exec G L N D n assign τ with
            | some (.normal,τ') => exec G L N D n body τ'
            | _ => none) = F
  have key : ∀ m i x,i + m = xs.length → I i x → ∃ e σ',rounds F N ps.toList i (xs.drop i) (S x) = some (none,e,σ') ∧ Q .normal σ' := by
    intro m
    induction m with
    | zero =>
      intro i x hm hx
      have hi : i = xs.length := by omega
      rw [List.drop_eq_nil_of_le (by omega)]
      exact ⟨.normal,S x,rfl,hend x (hi ▸ hx)⟩
    | succ m ih =>
      intro i x hm hx
      have hlt : i < xs.length := by omega
      rw [List.drop_eq_getElem_cons hlt]
      obtain ⟨env,hb,hev⟩ := h i hlt x hx
      obtain ⟨e,τ,h1,h2,h3⟩ := hev.get
      subst h2
      obtain ⟨e,τ',h4,h5,y,hy,hIy⟩ := h3.get
      subst h5
      have hFx : F { (S x).enter with env := env } = some (.normal,τ') := by
        rw [← hF]
        simp only [h1,h4]
      simp only [rounds,hb,hFx]
      rw [hy]
      exact ih (i + 1) y (by omega) hIy
  obtain ⟨e,σ',h1,h2⟩ := key xs.length 0 x0 (by omega) hI
  rw [List.drop_zero,← h0] at h1
  simp only [h1]
  exact ev_some h2
end
def shOf:FV->Option Shr
 | .agg [.str n,.int .i64 w,.int .i64 g,.int .i64 r,.int .i64 p]=>some ⟨n,w,g,r,p⟩
 | _=>none
def shsOf:List FV->Option (List Shr)
 | []=>some []
 | x :: r=>match shOf x,shsOf r with
  | some y,some l=>some (y :: l)
  | _,_=>none
@[simp] theorem shsOf_shL:∀ l:List Shr,shsOf (shL l)=some l
 | []=>rfl
 | x :: r=>by
  have:=shsOf_shL r
  simp only [shL] at this ⊢
  simp [shsOf,this,shOf,shF]
theorem shOf_some {v:FV} {x:Shr} (h:shOf v=some x):v=shF x:=by
 unfold shOf at h
 split at h
 ·simp only [Option.some.injEq] at h; subst h; rfl
 ·cases h
theorem shsOf_some:∀ {xs:List FV} {l:List Shr},shsOf xs=some l->xs=shL l
 | [],l,h=>by simp only [shsOf,Option.some.injEq] at h; subst h; rfl
 | x :: r,l,h=>by
  simp only [shsOf] at h
  split at h
  ·rename_i y m h1 h2
   simp only [Option.some.injEq] at h; subst h
   rw [shOf_some h1,shsOf_some h2]; rfl
  ·cases h
def nodupB:List ByteArray->Bool
 | []=>true
 | x :: r=>!r.any (·==x)&&nodupB r
theorem nodupB_inj {α:Type} (f:α->ByteArray):∀ {l:List α},nodupB (l.map f)=true->∀ a∈l,∀ b∈l,f a=f b->a=b
 | [],_,_,ha,_,_,_=>by simp at ha
 | x :: r,h,a,ha,b,hb,e=>by
  simp only [List.map_cons,nodupB,Bool.and_eq_true,Bool.not_eq_true',List.any_eq_false,List.mem_map,forall_exists_index,and_imp,forall_apply_eq_imp_iff₂,beq_iff_eq] at h
  obtain ⟨h1,h2⟩:=h
  have h1':∀ c∈r,f c≠f x:=fun c hc e=>h1 c hc ((bytes_eq _ _).2 e)
  rcases List.mem_cons.1 ha with ea | ha
  ·rcases List.mem_cons.1 hb with eb | hb
   ·rw [ea,eb]
   ·exact absurd (by rw [<-e,ea]) (h1' b hb)
  ·rcases List.mem_cons.1 hb with eb | hb
   ·exact absurd (by rw [e,eb]) (h1' a ha)
   ·exact nodupB_inj f h2 a ha b hb e
def inlS:FuncId->Nat->St->List V->Option (St×List V):=fun k d σ xs =>
 if k=92 then match xs with
  | [.own s 0 n,.fv ro (.fn (.func 89) [] [])]=>match lk s σ.blk with
   | some (.arr sz ys)=>match shsOf ys with
    | some l=>if sz=5/\n=ys.length/\l.length < 1000000/\nodupB (l.map (·.n))=true then some ({ σ with blk:=put s (.arr 5 (shL (isr cmpS l))) σ.blk },[]) else none
    | none=>none
   | _=>none
  | _=>none
 else none
theorem enters92:Enters Tryd.prog 92:=⟨_,Tryd.func92,by kernel_rfl,by kernel_rfl⟩
theorem inlS_ok (hv:∀ x y:Shr,Valid Tryd.prog 89 [(false,shF x),(false,shF y)] [.fv (.int .i64 (cmpS x y))]) {k:FuncId} {d:Nat} {σ σ':St} {xs vs:List V} (h:inlS k d σ xs=some (σ',vs)):InlOK Tryd.prog k σ xs σ' vs/\Enters Tryd.prog k:=by
 unfold inlS at h
 split at h
 ·rename_i hk
  subst hk
  refine ⟨?_,enters92⟩
  split at h
  ·rename_i s n ro
   split at h
   ·rename_i sz ys hlk
    split at h
    ·rename_i l hl
     split at h
     ·rename_i hc
      simp only [Option.some.injEq,Prod.mk.injEq] at h
      obtain ⟨rfl,rfl⟩:=h
      obtain ⟨rfl,rfl,h3,h4⟩:=hc
      have:=shsOf_some hl
      subst this
      exact inl_of_sort (sortS_row hv (by omega) (nodupB_inj Shr.n h4)) hlk ro
     ·cases h
    ·cases h
   ·cases h
  ·cases h
 ·cases h
noncomputable def pgY (ctx:Ctx) (zs:List (List FV)):Pg:={ pg ctx with yl:=some (some zs,none),inl:=inlS }
@[simp] theorem pgY_hd (ctx:Ctx) (zs:List (List FV)) (k:Nat):(pgY ctx zs).hd k=false:=rfl
@[simp] theorem pgY_tbl (ctx:Ctx) (zs:List (List FV)):(pgY ctx zs).tbl=tbl:=rfl
@[simp] theorem pgY_ctx (ctx:Ctx) (zs:List (List FV)):(pgY ctx zs).ctx=ctx:=rfl
@[simp] theorem pgY_inl (ctx:Ctx) (zs:List (List FV)):(pgY ctx zs).inl=inlS:=rfl
@[simp] theorem pgY_yl (ctx:Ctx) (zs:List (List FV)):(pgY ctx zs).yl=some (some zs,none):=rfl
@[simp] theorem pgY_eqs (ctx:Ctx) (zs:List (List FV)):(pgY ctx zs).eqs=[(94,[.int,.int,.int]),(117,[.str,.int,.int,.int,.int]),(53,[.str,.int,.int,.int])]:=rfl
@[simp] theorem pgY_fz (ctx:Ctx) (zs:List (List FV)) (k:Nat):(pgY ctx zs).fz k=false:=rfl
@[simp] theorem pgY_pin (ctx:Ctx) (zs:List (List FV)):(pgY ctx zs).pin=[]:=rfl
@[simp] theorem pgY_deep (ctx:Ctx) (zs:List (List FV)):(pgY ctx zs).deep=[88,76]:=rfl
@[simp] theorem pgY_ctxB (ctx:Ctx) (zs:List (List FV)) (k:Nat) (a b:List (Bool×FV)):(pgY ctx zs).ctxB k a b=none:=rfl
@[simp] theorem pgY_srt (ctx:Ctx) (zs:List (List FV)) (k n:Nat) (a:List FV):(pgY ctx zs).srt k n a=none:=rfl
theorem shL_getA (l:List Shr) (i:Nat) (h:i < (shL l).length):(shL l)[i] = .agg [.str (l[i]'(by simpa using h)).n,.int .i64 (l[i]'(by simpa using h)).w,.int .i64 (l[i]'(by simpa using h)).g,.int .i64 (l[i]'(by simpa using h)).r,.int .i64 (l[i]'(by simpa using h)).p]:=by simp [shL,shF]
theorem sh_nz {n:ByteArray} (h:(n==ByteArray.empty)=false) {w g r p:Int}:fscals [.str,.int,.int,.int,.int] [.str n,.int .i64 w,.int .i64 g,.int .i64 r,.int .i64 p] [.str ByteArray.empty,.int .i64 0,.int .i64 0,.int .i64 0,.int .i64 0]=some false:=by
 simp [fscals,fscal,h]
theorem sh_feqs (x:Shr):feqs [shF x] [.agg [.str x.n,.int .i64 x.w,.int .i64 x.g,.int .i64 x.r,.int .i64 x.p]]=true:=by
 have hb:(x.n==x.n)=true:=(bytes_eq _ _).2 rfl
 simp [feqs,feq,feqs.feqs',shF,hb]
theorem v88 (ctx:Ctx) (hT:∀ zs,TOk (pgY ctx zs)) (hC:∀ zs,CtxOk (pgY ctx zs)) (h92:∀ xs,ctx 92 xs=none) (l:List Shr) (m:Nat) (hl:l.length < 1000) (hm:m<=l.length) (hd:nodupB (l.map Shr.n)=true) (hne:∀ x∈l,(x.n==ByteArray.empty)=false) :
  ItH Tryd.prog 88 [(100000007,.arr 5 (shL l)),(102000880,.box [.own 100000007 0 l.length]),(102000881,.box [.fv false (.int .i64 m)])] [.ptr 102000880 0,.ptr 102000881 0] (((isr cmpS l).take m).map fun x=>[shF x]) none:=by
 refine itH_of_ev (G:=pgY ctx (((isr cmpS l).take m).map fun x=>[shF x])) (hT _) (hC _) mixed rfl Tryd.func88 T88 L88 (by simp [Tryd.ntmps88]) ⟨_,rfl,?_⟩
 simp only [Tryd.ntmps88,Tryd.results88,initStH,parEnv]
 refine ev_seq (ev_reg (by simp; rfl) ?_)
 have hl2:l.length < 1000000:=by omega
 refine ev_seq (ev_reg (by simp [inlS,hl2,hd,h92]; rfl) ?_)
 have hsl:(isr cmpS l).length=l.length:=isr_length _ _
 have hne2:∀ x∈isr cmpS l,(x.n==ByteArray.empty)=false:=fun x hx=>hne x ((isr_perm cmpS l).subset hx)
 rw [<-hsl] at hm hl
 have hll:l.length=(isr cmpS l).length:=hsl.symm
 rw [hll]
 generalize isr cmpS l=r at *
 clear hd hne hll hl2
 refine ev_seq (ev_reg (by simp; rfl) ?_)
 refine ev_block ?_
 refine ev_loop (fun i:Nat=>({ env:=[(0,.yv),(2,.ptr 102000881 0),(12,.own 100000007 0 r.length),(13,.fv false (.int .i64 r.length)),(14,.fv false (.int .i64 i))],blk:=[(100000007,.arr 5 (shL r)),(102000881,.box [.fv false (.int .i64 ((m:Int)-i))])],tr:=(r.take i).map fun x=>[shF x] }:St)) (fun i=>r.length-i) (fun i=>i<=m) 0 (by simp) (by omega) (by simp [R]; omega) (fun i hi=>?_)
 refine ev_seq (ev_reg (by simp; rfl) ?_)
 refine ev_seq (ev_cond rfl (fun hb=>?_) (fun hb=>?_))
 ·simp at hb
  refine ev_skip ?_
  refine ev_seq (ev_block ?_)
  refine ev_seq (ev_reg (by simp [hb,-shL_get,shL_getA]; rfl) ?_)
  have hw:IntKind.i64.wrap ((m:Int)-i-1)=(m:Int)-i-1:=wrap_id (by omega) (by omega)
  refine ev_seq (ev_reg (by simp [hw]; rfl) ?_)
  by_cases him:i < m
  ·have hc:decide ((m:Int)-i-1 < 0)=false:=by simp; omega
   have hz:=hne2 r[i] (List.getElem_mem hb)
   have hmin:min i r.length=i:=by omega
   have hzi:(List.take m (List.map (fun x=>[shF x]) r))[min i r.length]? = some [shF r[i]]:=by
    rw [hmin,List.getElem?_take,if_pos him]; simp [hb]
   refine ev_seq (ev_reg (by simp [hc,sh_nz hz,hzi,sh_feqs r[i],ans]; rfl) ?_)
   refine ev_cond rfl (fun hb3=>?_) (fun hb3=>?_)
   ·simp at hb3
   ·refine ev_skip ?_
    refine ev_reg (by simp; rfl) ?_
    refine ⟨i+1,?_,by omega,by omega⟩
    simp
    exact ⟨wrap_nat (n:=i+1) (by omega),by omega,by rw [List.take_add_one]; simp [hb]⟩
  ·have hc:decide ((m:Int)-i-1 < 0)=true:=by simp; omega
   refine ev_seq (ev_reg (by simp [hc,unsetS]; rfl) ?_)
   refine ev_cond rfl (fun hb=>?_) (fun hb=>?_)
   ·refine ev_ret ?_
    obtain rfl:i=m:=by omega
    simp
   ·simp at hb
 ·simp at hb
  refine ev_exit ?_
  obtain rfl:i=m:=by omega
  simp
noncomputable def code77:Code:=(Tryd.f77.body).getD .skip
noncomputable def inlD (ctx:Ctx):FuncId->Nat->St->List V->Option (St×List V):=fun k d σ xs =>
 if k=77/\xs.length<=6 then match exec (pg ctx) L77 6 (drawT T77 (pg ctx) L77 6) R code77 (σ.enterI xs) with
  | some (.ret,σ1)=>match slotsA (pg ctx) σ1 [.tmp 4] with
   | some vs=>some (σ1.leaveI d,vs.map (mapV (onLive σ1 (fdn d (surv σ1.blk))) 6))
   | none=>none
  | _=>none
 else none
theorem inlD_ok {ctx:Ctx} (hC:CtxOk (pg ctx)) {k:FuncId} {d:Nat} {σ σ':St} {xs vs:List V} (h:inlD ctx k d σ xs=some (σ',vs)):InlOK Tryd.prog k σ xs σ' vs/\Enters Tryd.prog k:=by
 unfold inlD at h
 split at h
 ·rename_i hk
  obtain ⟨rfl,hn⟩:=hk
  refine ⟨?_,⟨_,Tryd.func77,by kernel_rfl,by kernel_rfl⟩⟩
  split at h
  ·rename_i σ1 hx
   split at h
   ·rename_i us hs
    simp only [Option.some.injEq,Prod.mk.injEq] at h
    obtain ⟨rfl,rfl⟩:=h
    exact inl_of_exec (G:=pg ctx) (tok ctx) hC rfl Tryd.func77 (c:=code77) (by kernel_rfl) (drawOk (tok ctx) hC mixed T77 L77 _) R d ⟨hn,by decide⟩ hx (.inr rfl) hs
   ·cases h
  ·cases h
 ·cases h
def itrS:FuncId->List (Nat×Blk)->List V->Option (List (List FV)):=fun k bs caps =>
 match bs,caps with
 | [(102000880,.box [.own 100000007 0 n]),(102000881,.box [.fv false (.int .i64 m)]),(100000007,.arr sz ys)],[.ptr 102000880 0,.ptr 102000881 0]=>match shsOf ys with
  | some l=>if k=88/\sz=5/\n=l.length/\l.length < 1000/\0<=m/\m<=l.length/\nodupB (l.map Shr.n)=true/\(l.all fun x=>!(x.n==ByteArray.empty))=true then some (((isr cmpS l).take m.toNat).map fun x=>[shF x]) else none
  | none=>none
 | _,_=>none
theorem itrS_ok {ctx:Ctx} (hT:∀ zs,TOk (pgY ctx zs)) (hC:∀ zs,CtxOk (pgY ctx zs)) (h92:∀ xs,ctx 92 xs=none) {k:FuncId} {bs:List (Nat×Blk)} {caps:List V} {zs:List (List FV)} (h:itrS k bs caps=some zs):ItH Tryd.prog k bs caps zs none/\Enters Tryd.prog k:=by
 unfold itrS at h
 split at h
 ·rename_i n m sz ys
  split at h
  ·rename_i l hl
   split at h
   ·rename_i hc
    obtain ⟨rfl,rfl,rfl,h1,h2,h3,h4,h5⟩:=hc
    simp only [Option.some.injEq] at h; subst h
    have:=shsOf_some hl; subst this
    refine ⟨?_,⟨_,Tryd.func88,by kernel_rfl,by kernel_rfl⟩⟩
    have hm:((m.toNat:Nat):Int)=m:=by omega
    have:=v88 ctx hT hC h92 l m.toNat h1 (by omega) h4 (fun x hx=>by simpa using List.all_eq_true.1 h5 x hx)
    rw [hm] at this
    refine itH_order this fun s=>?_
    simp only [lk]
    by_cases e1:s=100000007
    ·subst e1; simp
    ·by_cases e2:s=102000880
     ·subst e2; simp
     ·simp [e1,e2]
   ·cases h
  ·cases h
 ·cases h
noncomputable def pgD (ctx:Ctx):Pg:={ pg ctx with inl:=inlD ctx,itrH:=itrS }
@[simp] theorem pgD_hd (ctx:Ctx) (k:Nat):(pgD ctx).hd k=false:=rfl
@[simp] theorem pgD_tbl (ctx:Ctx):(pgD ctx).tbl=tbl:=rfl
@[simp] theorem pgD_ctx (ctx:Ctx):(pgD ctx).ctx=ctx:=rfl
@[simp] theorem pgD_inl (ctx:Ctx):(pgD ctx).inl=inlD ctx:=rfl
@[simp] theorem pgD_yl (ctx:Ctx):(pgD ctx).yl=none:=rfl
@[simp] theorem pgD_eqs (ctx:Ctx):(pgD ctx).eqs=[(94,[.int,.int,.int]),(117,[.str,.int,.int,.int,.int]),(53,[.str,.int,.int,.int])]:=rfl
@[simp] theorem pgD_fz (ctx:Ctx) (k:Nat):(pgD ctx).fz k=false:=rfl
@[simp] theorem pgD_pin (ctx:Ctx):(pgD ctx).pin=[]:=rfl
@[simp] theorem pgD_deep (ctx:Ctx):(pgD ctx).deep=[88,76]:=rfl
@[simp] theorem pgD_itrH (ctx:Ctx):(pgD ctx).itrH=itrS:=rfl
@[simp] theorem pgD_ctxB (ctx:Ctx) (k:Nat) (a b:List (Bool×FV)):(pgD ctx).ctxB k a b=none:=rfl
@[simp] theorem pgD_srt (ctx:Ctx) (k n:Nat) (a:List FV):(pgD ctx).srt k n a=none:=rfl
def shrAt (all:Int) (l:List Stk) (i:Nat):Option Shr:=(l[i]?).map fun x=>⟨x.1,x.2,(all*x.2).tdiv (sumI (wts l)),(all*x.2).tmod (sumI (wts l)),i⟩
def shrs (all:Int) (l:List Stk) (i:Nat):List Shr:=(List.range i).filterMap (shrAt all l)
def outs (all:Int) (l:List Stk) (i:Nat):List Int:=(shrs all l i).map (·.g)++List.replicate (l.length-i) 0
theorem shrs_succ (all:Int) (l:List Stk) (i:Nat) (h:i < l.length):shrs all l (i+1)=shrs all l i++[⟨l[i].1,l[i].2,(all*l[i].2).tdiv (sumI (wts l)),(all*l[i].2).tmod (sumI (wts l)),i⟩]:=by
 have h1:shrAt all l i=some ⟨l[i].1,l[i].2,(all*l[i].2).tdiv (sumI (wts l)),(all*l[i].2).tmod (sumI (wts l)),i⟩:=by simp [shrAt,h]
 simp only [shrs,List.range_succ,List.filterMap_append,List.filterMap_cons,h1,List.filterMap_nil]
theorem shrs_length (all:Int) (l:List Stk):∀ (i:Nat),i<=l.length->(shrs all l i).length=i
 | 0,_=>rfl
 | i+1,h=>by rw [shrs_succ all l i (by omega)]; simp [shrs_length all l i (by omega)]
theorem outs_succ (all:Int) (l:List Stk) (i:Nat) (h:i < l.length):outs all l (i+1)=(outs all l i).set i ((all*l[i].2).tdiv (sumI (wts l))):=by
 have hs:=shrs_length all l i (by omega)
 obtain ⟨k,hk⟩:∃ k,l.length-i=k+1:=⟨l.length-i-1,by omega⟩
 simp only [outs,shrs_succ all l i h,hk,show l.length-(i+1)=k by omega,List.map_append,List.map_cons,List.map_nil,List.replicate_succ]
 rw [List.set_append_right _ _ (by simp [hs])]
 simp [hs]
def addOne (o:List Int) (p:Nat):List Int:=o.set p (IntKind.i64.wrap (o.getD p 0+1))
def pen (o:List Int) (zs:List Shr) (k:Nat):List Int:=(zs.take k).foldl (fun o x=>addOne o x.p.toNat) o
theorem code77_eq:Tryd.f77.body=some code77:=by kernel_rfl
theorem inl77 (ctx:Ctx) (r0 ro c:Bool) (all b e m:Int) (n:Nat) (k:Int) (X Y Z:List FV):inlD ctx 77 55 ({ env:=[(0,V.fv r0 (FV.int IntKind.i64 all)),(4,V.own 4 0 0),(5,V.fv false (FV.int IntKind.i64 b)),(6,V.ptr 6 0),(7,V.own 7 0 n),(18,V.fv ro (FV.sl c 2 X)),(19,V.fv false (FV.int IntKind.i64 k)),(20,V.fv false (FV.int IntKind.i64 k)),(21,V.fv false (FV.bool false)),(50,V.own 7 0 n),(51,V.fv r0 (FV.int IntKind.i64 all)),(52,V.own 17 0 n),(53,V.fv false (FV.int IntKind.i64 e)),(54,V.fv false (FV.int IntKind.i64 m))],blk:=[(4,Blk.arr 1 []),(6,Blk.box [V.own 17 0 n]),(7,Blk.arr 5 Y),(17,Blk.arr 1 Z)] }:St) [V.own 7 0 n,V.fv false (FV.int IntKind.i64 m)] =
  some (({ env:=[(0,V.fv r0 (FV.int IntKind.i64 all)),(4,V.own 4 0 0),(5,V.fv false (FV.int IntKind.i64 b)),(6,V.ptr 6 0),(7,V.own 7 0 n),(18,V.fv ro (FV.sl c 2 X)),(19,V.fv false (FV.int IntKind.i64 k)),(20,V.fv false (FV.int IntKind.i64 k)),(21,V.fv false (FV.bool false)),(50,V.own 7 0 n),(51,V.fv r0 (FV.int IntKind.i64 all)),(52,V.own 17 0 n),(53,V.fv false (FV.int IntKind.i64 e)),(54,V.fv false (FV.int IntKind.i64 m))],blk:=[(2000880,.box [.own 7 0 n]),(2000881,.box [.fv false (.int .i64 m)]),(4,Blk.arr 1 []),(6,Blk.box [V.own 17 0 n]),(7,Blk.arr 5 Y),(17,Blk.arr 1 Z)] }:St),[.fn (.func 88) [] [.ptr 2000880 0,.ptr 2000881 0]]):=by
 have hx:Ev (exec (pg ctx) L77 6 (drawT T77 (pg ctx) L77 6) R code77 (({ env:=[(0,V.fv r0 (FV.int IntKind.i64 all)),(4,V.own 4 0 0),(5,V.fv false (FV.int IntKind.i64 b)),(6,V.ptr 6 0),(7,V.own 7 0 n),(18,V.fv ro (FV.sl c 2 X)),(19,V.fv false (FV.int IntKind.i64 k)),(20,V.fv false (FV.int IntKind.i64 k)),(21,V.fv false (FV.bool false)),(50,V.own 7 0 n),(51,V.fv r0 (FV.int IntKind.i64 all)),(52,V.own 17 0 n),(53,V.fv false (FV.int IntKind.i64 e)),(54,V.fv false (FV.int IntKind.i64 m))],blk:=[(4,Blk.arr 1 []),(6,Blk.box [V.own 17 0 n]),(7,Blk.arr 5 Y),(17,Blk.arr 1 Z)] }:St).enterI [V.own 7 0 n,V.fv false (FV.int IntKind.i64 m)])) (fun e' σ1=>e' = .ret/\slotsA (pg ctx) σ1 [.tmp 4]=some [.fn (.func 88) [] [.ptr 2 0,.ptr 3 0]]/\σ1.leaveI 55=({ env:=[(0,V.fv r0 (FV.int IntKind.i64 all)),(4,V.own 4 0 0),(5,V.fv false (FV.int IntKind.i64 b)),(6,V.ptr 6 0),(7,V.own 7 0 n),(18,V.fv ro (FV.sl c 2 X)),(19,V.fv false (FV.int IntKind.i64 k)),(20,V.fv false (FV.int IntKind.i64 k)),(21,V.fv false (FV.bool false)),(50,V.own 7 0 n),(51,V.fv r0 (FV.int IntKind.i64 all)),(52,V.own 17 0 n),(53,V.fv false (FV.int IntKind.i64 e)),(54,V.fv false (FV.int IntKind.i64 m))],blk:=[(2000880,.box [.own 7 0 n]),(2000881,.box [.fv false (.int .i64 m)]),(4,Blk.arr 1 []),(6,Blk.box [V.own 17 0 n]),(7,Blk.arr 5 Y),(17,Blk.arr 1 Z)] }:St)/\[V.fn (.func 88) [] [.ptr 2 0,.ptr 3 0]].map (mapV (onLive σ1 (fdn 55 (surv σ1.blk))) 6)=[.fn (.func 88) [] [.ptr 2000880 0,.ptr 2000881 0]]):=by
  obtain ⟨c',hc⟩:∃ c',Tryd.f77.body=some c':=⟨_,rfl⟩
  have hcc:code77=c':=by have:=code77_eq; rw [hc] at this; simpa using this.symm
  rw [hcc]
  simp only [Tryd.f77,Option.some.injEq] at hc
  subst hc
  simp only [St.enterI,St.mapN,mapEnv,mapBlk,mapV,mapB,onLive,pres,parEnv,fup,List.map_cons,List.map_nil]
  refine ev_seq (ev_reg (by simp [parEnv]; rfl) ?_)
  refine ev_seq (ev_reg (by simp; rfl) ?_)
  refine ev_ret ⟨rfl,?_,?_,?_⟩
  ·simp
  ·simp [St.leaveI,St.mapN,mapEnv,mapBlk,mapV,mapB,onLive,pres,fdn,surv,idxOf,newN,dnEnv]
  ·simp [mapV,onLive,pres,fdn,surv,idxOf,newN]
 obtain ⟨e',σ1,h1,h2,h3,h4,h5⟩:=hx.get
 subst h2
 unfold inlD
 rw [if_pos ⟨rfl,by simp⟩,h1]
 simp only [h3,h4,h5]
theorem shrs_place {all:Int} {l:List Stk} {z:Shr} (h:z∈shrs all l l.length):∃ q:Nat,q < l.length/\z.p=q:=by
 simp only [shrs,List.mem_filterMap,List.mem_range,shrAt,Option.map_eq_some_iff] at h
 obtain ⟨q,hq,x,_,rfl⟩:=h
 exact ⟨q,hq,rfl⟩
theorem pen_length (o:List Int) (zs:List Shr) (k:Nat):(pen o zs k).length=o.length:=by
 have key:∀ (zs:List Shr) (o:List Int),(zs.foldl (fun o x=>addOne o x.p.toNat) o).length=o.length:=by
  intro zs
  induction zs with
  | nil=>intro o; rfl
  | cons z zs ih=>intro o; rw [List.foldl_cons,ih]; simp [addOne]
 exact key _ _
theorem v50 (ctx:Ctx) (hT:TOk (pgD ctx)) (hC:CtxOk (pgD ctx)) (h48:H48 ctx) (h49:H49 ctx) (h77:∀ xs,ctx 77 xs=none) (all:Int) (l:List Stk) (r0 ro c:Bool) (hl:l.length<=10) (hby:sumI (wts l)≠0) (hov:∀ x∈l,IntKind.i64.wrap (all*x.2)=all*x.2) (hqu:∀ x∈l,IntKind.i64.wrap ((all*x.2).tdiv (sumI (wts l)))=(all*x.2).tdiv (sumI (wts l))) (m:Nat) (hml:m<=l.length) (hleft:IntKind.i64.wrap (all-sumI (outs all l l.length))=(m:Int)) (hnd:nodupB ((shrs all l l.length).map Shr.n)=true) (hne:∀ x∈shrs all l l.length,(x.n==ByteArray.empty)=false):Valid Tryd.prog 50 [(r0,.int .i64 all),(ro,.sl c 2 (stL l))] [.us 1 (ints (pen (outs all l l.length) ((isr cmpS (shrs all l l.length)).take m) m))]:=by
 refine valid_of_ev (G:=pgD ctx) hT hC mixed Tryd.func50 T50 L50 (by simp [Tryd.ntmps50]) ⟨_,rfl,?_⟩
 simp only [Tryd.ntmps50,Tryd.results50,initSt,initEnv]
 have e49:ctx 49 [(ro,.sl c 2 (stL l))]=some [.us 1 (ints (wts l))]:=h49 l ro c (by omega)
 have e48:∀ ro c,ctx 48 [(ro,.sl c 1 (ints (wts l)))]=some [.fv (.int .i64 (sumI (wts l)))]:=fun ro c=>h48 _ ro c (by simp; omega)
 have htk:List.take l.length (wts l)=wts l:=List.take_of_length_le (by simp)
 have hm1:8*(l.length:Int)<=281474976710656:=by omega
 have hm2:(l.length:Int)<=9223372036854775807:=by omega
 have hl8:l.length*8<=140737488355328:=by omega
 refine ev_seq (ev_reg (by simp; rfl) ?_)
 refine ev_seq (ev_reg (by simp [e49,e48,htk]; rfl) ?_)
 refine ev_seq (ev_reg (by simp [hl8,hm1,hm2]; rfl) ?_)
 refine ev_seq (ev_reg (by simp; rfl) ?_)
 refine ev_seq (ev_seq (ev_reg (by simp; rfl) ?_))
 refine ev_block ?_
 refine ev_loop (fun i:Nat=>({ env:=[(0,.fv r0 (.int .i64 all)),(4,.own 4 0 0),(5,.fv false (.int .i64 (sumI (wts l)))),(6,.ptr 6 0),(7,.own 7 0 (shrs all l i).length),(18,.fv ro (.sl c 2 (stL l))),(19,.fv false (.int .i64 l.length)),(20,.fv false (.int .i64 i))],blk:=[(4,.arr 1 []),(6,.box [.own 17 0 l.length]),(7,.arr 5 (shL (shrs all l i))),(17,.arr 1 (ints (outs all l i)))] }:St)) (fun i=>l.length-i) (fun i=>i<=l.length) 0 (by simp [shrs,outs,ints]; rfl) (by omega) (by simp [R]; omega) (fun i hi=>?_)
 refine ev_seq (ev_reg (by simp; rfl) ?_)
 refine ev_seq (ev_cond rfl (fun hb=>?_) (fun hb=>?_))
 ·simp at hb
  refine ev_skip ?_
  refine ev_seq (ev_block ?_)
  refine ev_seq (ev_reg (by simp [hb]; rfl) ?_)
  refine ev_seq (ev_drw rfl (by kernel_rfl) (by kernel_rfl) (by simp [hby,hov l[i] (List.getElem_mem hb),hqu l[i] (List.getElem_mem hb)]; rfl) ?_)
  have hsl:(shrs all l i).length=i:=shrs_length all l i hi
  have hol:(outs all l i).length=l.length:=by simp [outs,hsl]; omega
  have hbd:(i+1)*48<=140737488355328:=by omega
  have hos:=outs_succ all l i hb
  have hss:=shrs_succ all l i hb
  refine ev_seq (ev_reg (by simp [hb,hol]; rfl) ?_)
  refine ev_reg (by simp [hsl,hbd]; rfl) ?_
  refine ev_reg (by simp; rfl) ?_
  refine ⟨i+1,?_,by omega,by omega⟩
  simp [hos,hss,hsl]
  exact ⟨wrap_nat (n:=i+1) (by omega),by simp [shL,shF]⟩
 ·simp at hb
  refine ev_exit ?_
  obtain rfl:i=l.length:=by omega
  have hsl:(shrs all l l.length).length=l.length:=shrs_length all l _ hi
  have hol:(outs all l l.length).length=l.length:=by simp [outs,hsl]
  have hto:List.take l.length (outs all l l.length)=outs all l l.length:=List.take_of_length_le (by omega)
  have e48':∀ ro c,ctx 48 [(ro,.sl c 1 (ints (outs all l l.length)))]=some [.fv (.int .i64 (sumI (outs all l l.length)))]:=fun ro c=>h48 _ ro c (by omega)
  simp only [hsl]
  have hin:=inl77 ctx r0 ro c all (sumI (wts l)) (sumI (outs all l l.length)) m l.length l.length (stL l) (shL (shrs all l l.length)) (ints (outs all l l.length))
  refine ev_seq (ev_seq (ev_reg (by simp [hol,hto,e48',h77,hleft,hin]; rfl) ?_))
  refine ev_block ?_
  have hit:itrS 88 [(102000880,.box [.own 100000007 0 l.length]),(102000881,.box [.fv false (.int .i64 m)]),(100000007,.arr 5 (shL (shrs all l l.length)))] [.ptr 102000880 0,.ptr 102000881 0]=some (((isr cmpS (shrs all l l.length)).take m).map fun x=>[shF x]):=by
   have hml':m<=(shrs all l l.length).length:=by omega
   simp [itrS,hsl,hnd,hml,show l.length < 1000 by omega]
   exact hne
  refine ev_rangeH (k:=88) rfl rfl rfl rfl hit (fun o:List Int=>({ env:=[(4,V.own 4 0 0),(6,V.ptr 6 0),(55,.fn (.func 88) [] [.ptr 2000880 0,.ptr 2000881 0])],blk:=[(4,Blk.arr 1 []),(6,Blk.box [V.own 17 0 l.length]),(17,Blk.arr 1 (ints o))] }:St)) (fun i o=>o=pen (outs all l l.length) ((isr cmpS (shrs all l l.length)).take m) i) _ ?_ rfl (fun i hi o ho=>?_) (fun o ho=>?_)
  ·simp [frees,pen]
  ·have hzl:i < ((isr cmpS (shrs all l l.length)).take m).length:=by simpa using hi
   have hzx:(((isr cmpS (shrs all l l.length)).take m).map fun x=>[shF x])[i]=[shF ((isr cmpS (shrs all l l.length)).take m)[i]]:=by simp
   obtain ⟨q,hq,hzp⟩:=shrs_place (all:=all) (l:=l) (List.mem_of_mem_take (List.getElem_mem hzl) |> (isr_perm _ _).subset)
   have hpl:o.length=l.length:=by rw [ho,pen_length,hol]
   have hnx:pen (outs all l l.length) ((isr cmpS (shrs all l l.length)).take m) (i+1)=addOne o q:=by
    rw [ho]
    simp only [pen,List.take_add_one,List.getElem?_eq_getElem hzl,Option.toList_some,List.foldl_append,List.foldl_cons,List.foldl_nil,hzp,Int.toNat_natCast]
   rw [hzx]
   generalize ((isr cmpS (shrs all l l.length)).take m)[i]=z at hzp ⊢
   have hqo:q < o.length:=by omega
   refine ⟨_,by simp [shF]; rfl,?_⟩
   refine ev_reg (by simp; rfl) ⟨rfl,?_⟩
   refine ev_block ?_
   refine ev_reg (by simp [hzp,hq,hqo]; rfl) ⟨rfl,addOne o q,?_,hnx.symm⟩
   simp [addOne,hqo]
  ·have hxl:(((isr cmpS (shrs all l l.length)).take m).map fun x=>[shF x]).length=m:=by simp [isr_length]; omega
   rw [hxl] at ho
   have hpl:o.length=l.length:=by rw [ho,pen_length,hol]
   refine ev_seq (ev_reg (by simp; rfl) ?_)
   refine ev_ret ?_
   rw [<-ho]
   simp [hpl]
theorem sumI_eq {B:Int} (hB:0<=B):∀ (l:List Int),(∀ x∈l,0<=x/\x<=B)->(l.length:Int)*B < 9223372036854775807->sumI l=l.sum/\0<=l.sum/\l.sum<=l.length*B:=by
 have key:∀ (l:List Int) (n:Int),0<=n->(∀ x∈l,0<=x/\x<=B)->n+(l.length:Int)*B < 9223372036854775807->l.foldl (fun n x=>IntKind.i64.wrap (n+x)) n=n+l.sum/\0<=l.sum/\l.sum<=l.length*B:=by
  intro l
  induction l with
  | nil=>intro n _ _ _; simp
  | cons x l ih =>
   intro n hn hx hlt
   have hx0:=hx x List.mem_cons_self
   have e:((x :: l).length:Int)*B=l.length*B+B:=by rw [List.length_cons]; push_cast; rw [Int.add_mul,Int.one_mul]
   rw [e] at hlt ⊢
   have hlB:0<=(l.length:Int)*B:=Int.mul_nonneg (by omega) hB
   have hw:IntKind.i64.wrap (n+x)=n+x:=wrap_id (by omega) (by omega)
   obtain ⟨h1,h2,h3⟩:=ih (n+x) (by omega) (fun y hy=>hx y (List.mem_cons_of_mem _ hy)) (by omega)
   simp only [List.foldl_cons,hw,List.sum_cons]
   exact ⟨by rw [h1]; omega,by omega,by omega⟩
 intro l hx hlt
 obtain ⟨h1,h2,h3⟩:=key l 0 (Int.le_refl _) hx (by omega)
 exact ⟨by unfold sumI; rw [h1]; omega,h2,h3⟩
structure DivOk (all:Int) (l:List Stk):Prop where
 len:l.length<=10
 h0:0<=all
 h1:all<=10000000
 w:∀ x∈l,0<=x.2/\x.2<=1000000
 pos:0 < (wts l).sum
 nd:nodupB (l.map (·.1))=true
 ne:∀ x∈l,(x.1==ByteArray.empty)=false
def gets (all:Int) (l:List Stk):List Int:=l.map fun x=>(all*x.2) / (wts l).sum
theorem shrs_take (all:Int) (l:List Stk):∀ i,i<=l.length->(shrs all l i).map Shr.g=(l.take i).map (fun x=>(all*x.2).tdiv (sumI (wts l)))/\(shrs all l i).map Shr.n=(l.take i).map (·.1)
 | 0,_=>⟨rfl,rfl⟩
 | i+1,h=>by
  obtain ⟨h1,h2⟩:=shrs_take all l i (by omega)
  rw [shrs_succ all l i (by omega)]
  simp only [List.map_append,List.map_cons,List.map_nil,h1,h2,List.take_add_one,List.getElem?_eq_getElem (show i < l.length by omega),Option.toList_some,and_self]
section
variable {all:Int} {l:List Stk}
theorem DivOk.sum (h:DivOk all l):sumI (wts l)=(wts l).sum/\(wts l).sum<=10000000:=by
 have hw:∀ x∈wts l,0<=x/\x<=1000000:=fun x hx=>by
  simp only [wts,List.mem_map] at hx
  obtain ⟨y,hy,rfl⟩:=hx
  exact h.w y hy
 have hl:=h.len
 obtain ⟨h1,h2,h3⟩:=sumI_eq (B:=1000000) (by omega) (wts l) hw (by rw [wts_length]; omega)
 rw [wts_length] at h3
 exact ⟨h1,by omega⟩
theorem DivOk.mul (h:DivOk all l) {x:Stk} (hx:x∈l):0<=all*x.2/\all*x.2<=10000000000000:=by
 obtain ⟨h1,h2⟩:=h.w x hx
 have ha:=h.h0
 have hb:=h.h1
 refine ⟨Int.mul_nonneg ha h1,?_⟩
 calc all*x.2<=10000000*x.2:=Int.mul_le_mul_of_nonneg_right hb h1
  _<=10000000*1000000:=Int.mul_le_mul_of_nonneg_left h2 (by omega)
theorem DivOk.div (h:DivOk all l) {x:Stk} (hx:x∈l):(all*x.2).tdiv (sumI (wts l))=all*x.2 / (wts l).sum/\0<=all*x.2 / (wts l).sum/\all*x.2 / (wts l).sum<=10000000000000:=by
 obtain ⟨h1,h2⟩:=h.mul hx
 have hp:=h.pos
 rw [h.sum.1,Int.tdiv_eq_ediv_of_nonneg h1]
 exact ⟨rfl,Int.ediv_nonneg h1 (by omega),Int.le_trans (Int.ediv_le_self _ h1) h2⟩
theorem DivOk.outsE (h:DivOk all l):outs all l l.length=gets all l:=by
 unfold outs gets
 rw [(shrs_take all l l.length (Nat.le_refl _)).1,List.take_length,Nat.sub_self]
 simp only [List.replicate_zero,List.append_nil]
 exact List.map_congr_left fun x hx=>(h.div hx).1
theorem left_bound {S:Int} (hS:0 < S):∀ (ws:List Int) (all:Int),(∀ w∈ws,0<=w)->0<=all->(ws.map fun w=>all*w / S).sum*S<=all*ws.sum/\all*ws.sum<=((ws.map fun w=>all*w / S).sum+ws.length)*S
 | [],all,_,_=>by simp
 | w :: ws,all,h,ha=>by
  obtain ⟨h1,h2⟩:=left_bound hS ws all (fun v hv=>h v (List.mem_cons_of_mem _ hv)) ha
  have e:=Int.emod_add_mul_ediv (all*w) S
  have e1:=Int.emod_nonneg (all*w) (show S≠0 by omega)
  have e2:=Int.emod_lt_of_pos (all*w) hS
  simp only [List.map_cons,List.sum_cons,List.length_cons]
  have e3:S*(all*w / S)=all*w / S*S:=Int.mul_comm _ _
  push_cast
  simp only [Int.add_mul,Int.mul_add,Int.one_mul] at h2 ⊢
  omega
theorem DivOk.left (h:DivOk all l):0<=all-(gets all l).sum/\all-(gets all l).sum<=l.length:=by
 have hw:∀ w∈wts l,0<=w:=fun x hx=>by
  simp only [wts,List.mem_map] at hx
  obtain ⟨y,hy,rfl⟩:=hx
  exact (h.w y hy).1
 have hg:gets all l=(wts l).map fun w=>all*w / (wts l).sum:=by simp [gets,wts]
 obtain ⟨h1,h2⟩:=left_bound h.pos (wts l) all hw h.h0
 rw [<-hg] at h1 h2
 rw [wts_length] at h2
 constructor
 ·have:=Int.le_of_mul_le_mul_right h1 h.pos
  omega
 ·have:=Int.le_of_mul_le_mul_right h2 h.pos
  omega
theorem DivOk.getsB (h:DivOk all l):(∀ x∈gets all l,0<=x/\x<=10000000000000):=fun x hx=>by
 simp only [gets,List.mem_map] at hx
 obtain ⟨y,hy,rfl⟩:=hx
 exact (h.div hy).2
theorem DivOk.sumOuts (h:DivOk all l):sumI (outs all l l.length)=(gets all l).sum:=by
 rw [h.outsE]
 have hl:=h.len
 refine (sumI_eq (B:=10000000000000) (by omega) (gets all l) h.getsB ?_).1
 simp only [gets,List.length_map]
 omega
def leftF (all:Int) (l:List Stk):Nat:=(all-(gets all l).sum).toNat
def divF (all:Int) (l:List Stk):List Int:=pen (gets all l) ((isr cmpS (shrs all l l.length)).take (leftF all l)) (leftF all l)
theorem DivOk.names (h:DivOk all l):nodupB ((shrs all l l.length).map Shr.n)=true/\∀ x∈shrs all l l.length,(x.n==ByteArray.empty)=false:=by
 have hn:=(shrs_take all l l.length (Nat.le_refl _)).2
 rw [List.take_length] at hn
 refine ⟨by rw [hn]; exact h.nd,fun x hx=>?_⟩
 have:x.n∈l.map (·.1):=by rw [<-hn]; exact List.mem_map_of_mem hx
 obtain ⟨y,hy,e⟩:=List.mem_map.1 this
 rw [<-e]; exact h.ne y hy
theorem v50' (ctx:Ctx) (hT:TOk (pgD ctx)) (hC:CtxOk (pgD ctx)) (h48:H48 ctx) (h49:H49 ctx) (h77:∀ xs,ctx 77 xs=none) (r0 ro c:Bool) (h:DivOk all l):Valid Tryd.prog 50 [(r0,.int .i64 all),(ro,.sl c 2 (stL l))] [.us 1 (ints (divF all l))]:=by
 obtain ⟨k1,k2⟩:=h.left
 have hlen:=h.len
 have hm:((leftF all l:Nat):Int)=all-(gets all l).sum:=by unfold leftF; omega
 have:=v50 ctx hT hC h48 h49 h77 all l r0 ro c h.len (by rw [h.sum.1]; have:=h.pos; omega) (fun x hx=>by have:=h.mul hx; exact wrap_id (by omega) (by omega)) (fun x hx=>by have:=h.div hx; rw [this.1]; exact wrap_id (by omega) (by omega))
  (leftF all l) (by omega) (by rw [h.sumOuts,hm]; exact wrap_id (by omega) (by omega)) h.names.1 h.names.2
 rw [h.outsE] at this
 exact this
end
def H50 (ctx:Ctx):Prop:=∀ (all:Int) (l:List Stk) (r0 ro c:Bool),DivOk all l->ctx 50 [(r0,.int .i64 all),(ro,.sl c 2 (stL l))]=some [.us 1 (ints (divF all l))]
theorem nodupB_iff:∀ {l:List ByteArray},nodupB l=true↔l.Nodup
 | []=>by simp [nodupB]
 | x :: r=>by
  simp only [nodupB,Bool.and_eq_true,Bool.not_eq_true',List.any_eq_false,List.nodup_cons,nodupB_iff (l:=r)]
  refine and_congr_left fun _=>⟨fun h hx=>h x hx ((bytes_eq _ _).2 rfl),fun h y hy e=>h ((bytes_eq _ _).1 e▸hy)⟩
theorem stAt_of {l:List Stk} (h:stakesOk l=true) {j:Nat} (hj:j < l.length):nameOk l[j].1=true/\(0<=l[j].2/\l[j].2<=1000)/\∀ p∈l.take j,p.1≠l[j].1:=by
 simp only [stakesOk,stTo,Bool.and_eq_true,List.all_eq_true,List.mem_range] at h
 have:=h.2 j hj
 simp only [stAt,List.getElem?_eq_getElem hj,Bool.and_eq_true,decide_eq_true_eq,Bool.not_eq_true',List.any_eq_false] at this
 exact ⟨this.1.1,this.1.2,fun p hp e=>this.2 p hp ((bytes_eq _ _).2 e)⟩
theorem stakes_len {l:List Stk} (h:stakesOk l=true):l.length<=10:=by
 simp only [stakesOk,stTo,Bool.and_eq_true,decide_eq_true_eq] at h
 exact h.1
theorem stakes_mem {l:List Stk} (h:stakesOk l=true) {x:Stk} (hx:x∈l):nameOk x.1=true/\(0<=x.2/\x.2<=1000):=by
 obtain ⟨j,hj,rfl⟩:=List.mem_iff_getElem.1 hx
 exact ⟨(stAt_of h hj).1,(stAt_of h hj).2.1⟩
theorem stakes_nodup {l:List Stk} (h:stakesOk l=true):(l.map (·.1)).Nodup:=by
 unfold List.Nodup
 rw [List.pairwise_iff_getElem]
 intro i j hi hj hij
 simp only [List.length_map] at hi hj
 simp only [List.getElem_map]
 exact (stAt_of h hj).2.2 _ (List.mem_iff_getElem.2 ⟨i,by simp; omega,by simp⟩)
theorem name_ne {s:ByteArray} (h:nameOk s=true):(s==ByteArray.empty)=false:=by
 cases e:s==ByteArray.empty with
 | false=>rfl
 | true =>
  have:=(bytes_eq _ _).1 e
  subst this
  simp [nameOk] at h
theorem divOk_of {all:Int} {l:List Stk} (h0:0<=all) (h1:all<=10000000) (h:stakesOk l=true) (hs:0 < (wts l).sum):DivOk all l :=
 { len:=stakes_len h,h0:=h0,h1:=h1,w:=fun x hx=>by have:=(stakes_mem h hx).2; omega,pos:=hs,nd:=nodupB_iff.2 (stakes_nodup h),ne:=fun x hx=>name_ne (stakes_mem h hx).1 }
theorem stakes_sum {l:List Stk} (h:stakesOk l=true):sumI (wts l)=(wts l).sum/\0<=(wts l).sum/\(wts l).sum<=10000:=by
 have hl:=stakes_len h
 obtain ⟨h1,h2,h3⟩:=sumI_eq (B:=1000) (by omega) (wts l) (fun x hx=>by
  simp only [wts,List.mem_map] at hx
  obtain ⟨y,hy,rfl⟩:=hx
  exact (stakes_mem h hy).2) (by rw [wts_length]; omega)
 rw [wts_length] at h3
 exact ⟨h1,h2,by omega⟩
def divideF (all:Int) (l:List Stk):List Int×Int :=
 if 0<=all/\all<=10000000 then (if stakesOk l=true/\0 < (wts l).sum then (divF all l,0) else ([],32)) else ([],7)
theorem v15 (ctx:Ctx) (hC:CtxOk (pg ctx)) (h46:H46 ctx) (h47:H47 ctx) (h48:H48 ctx) (h49:H49 ctx) (h50:H50 ctx) (all:Int) (l:List Stk) (r0 ro c:Bool) (hl:l.length < 2^44):Valid Tryd.prog 15 [(r0,.int .i64 all),(ro,.sl c 2 (stL l))] [.us 1 (ints (divideF all l).1),.fv (.int .i64 (divideF all l).2)]:=by
 refine valid_of_ev (G:=pg ctx) (tok ctx) hC mixed Tryd.func15 T15 L15 (by simp [Tryd.ntmps15]) ⟨_,rfl,?_⟩
 simp only [Tryd.ntmps15,Tryd.results15,initSt,initEnv]
 have e46:∀ r,ctx 46 [(r,.int .i64 all),(false,.int .i64 0),(false,.int .i64 10000000)]=some [.fv (.bool (decide (0<=all)&&decide (all<=10000000)))]:=fun r=>h46 _ _ _ _ _ _
 have e47:=h47 l ro c hl
 have e49:=h49 l ro c hl
 have htk:List.take l.length (wts l)=wts l:=List.take_of_length_le (by simp)
 have e48:∀ ro c,ctx 48 [(ro,.sl c 1 (ints (wts l)))]=some [.fv (.int .i64 (sumI (wts l)))]:=fun ro c=>h48 _ ro c (by simp; omega)
 refine ev_seq (ev_reg (by simp; rfl) ?_)
 refine ev_seq (ev_seq (ev_reg (by simp [e46]; rfl) ?_))
 refine ev_cond rfl (fun hb=>?_) (fun hb=>?_)
 ·have hno:¬ (0<=all/\all<=10000000):=by simp at hb; omega
  refine ev_seq (ev_reg (by simp; rfl) ?_)
  refine ev_ret ?_
  simp [divideF,hno,ints]
 ·have hyes:0<=all/\all<=10000000:=by simp at hb; omega
  refine ev_skip ?_
  cases hs:stakesOk l with
  | false =>
   rw [hs] at e47
   refine ev_seq (ev_seq (ev_reg (by simp [e47,unsetS]; rfl) ?_))
   refine ev_cond rfl (fun hb=>?_) (fun hb=>?_)
   ·refine ev_seq (ev_reg (by simp; rfl) ?_)
    refine ev_ret ?_
    simp [divideF,hyes,hs,ints]
   ·simp at hb
  | true =>
   rw [hs] at e47
   have hss:=stakes_sum hs
   refine ev_seq (ev_seq (ev_reg (by simp [e47,e48,e49,htk]; rfl) ?_))
   refine ev_cond rfl (fun hb=>?_) (fun hb=>?_)
   ·have hp:¬ 0 < (wts l).sum:=by simp at hb; omega
    refine ev_seq (ev_reg (by simp; rfl) ?_)
    refine ev_ret ?_
    simp [divideF,hyes,hs,hp,ints]
   ·have hp:0 < (wts l).sum:=by simp at hb; omega
    have e50:=h50 all l r0 ro c (divOk_of hyes.1 hyes.2 hs hp)
    refine ev_skip ?_
    refine ev_seq (ev_reg (by simp [e50]; rfl) ?_)
    refine ev_seq (ev_reg (by simp; rfl) ?_)
    refine ev_ret ?_
    simp [divideF,hyes,hs,hp]
end Go.Proofs.YtejodhjhddnbeaaDoor.E
