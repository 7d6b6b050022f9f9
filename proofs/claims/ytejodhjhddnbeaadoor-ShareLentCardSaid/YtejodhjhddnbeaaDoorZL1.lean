/-
  The law of the loan (ShareLent): all claims are together 8 times all nets, whatever is lent; none is below 0; what is lent and lent back at the same rent changes no claim, nor does what is lent at a rent of 8 eighths, for any voyage. Conditions: none.
-/
import Derived.Test.YtejodhjhddnbeaaDoorZL0
import Derived.Test.YtejodhjhddnbeaaDoorZ25
set_option linter.unusedVariables false
set_option linter.unusedSimpArgs false
namespace Go.Proofs.YtejodhjhddnbeaaDoor.E
open Go Go.RowKit
theorem getD_at {l : List Int} {i : Nat} (h : i < l.length) : l.getD i 0 = l[i] := by simp [List.getD_eq_getElem?_getD,h]
theorem upd_get {l : List Int} {a b : Nat} {d : Int} (ha : a < l.length) (hb : b < l.length) (hab : a ≠ b) (i : Nat) : (upd l a b d)[i]? = if i = b then some (l[b] + d) else if i = a then some (l[a] - d) else l[i]? := by
  unfold upd
  rw [getD_at ha,getD_at hb,List.getElem?_set,List.getElem?_set]
  by_cases e : i = b
  · subst e; simp [hb]
  · by_cases e2 : i = a
    · subst e2; simp [e,ha,Ne.symm e]
    · simp [e,e2,Ne.symm e,Ne.symm e2]
theorem upd_back {l : List Int} {a b : Nat} (d : Int) (ha : a < l.length) (hb : b < l.length) (hab : a ≠ b) : upd (upd l a b d) b a d = l := by
  refine List.ext_getElem? fun i => ?_
  have hl := upd_length l a b d
  have h1 := upd_get (d := d) ha hb hab
  have ea : (upd l a b d)[a]'(by omega) = l[a] - d := by
    have := h1 a
    rw [List.getElem?_eq_getElem (by omega),if_neg hab,if_pos rfl] at this
    simpa using this
  have eb : (upd l a b d)[b]'(by omega) = l[b] + d := by
    have := h1 b
    rw [List.getElem?_eq_getElem (by omega),if_pos rfl] at this
    simpa using this
  rw [upd_get (by omega) (by omega) hab.symm,ea,eb,h1]
  by_cases e : i = a
  · subst e; simp [ha]
  · by_cases e2 : i = b
    · subst e2; simp [e,hb]
    · simp [e,e2]
theorem upd_zero {l : List Int} {a b : Nat} (ha : a < l.length) (hb : b < l.length) (hab : a ≠ b) : upd l a b 0 = l := by
  refine List.ext_getElem? fun i => ?_
  rw [upd_get ha hb hab]
  by_cases e : i = b
  · subst e; simp [hb]
  · by_cases e2 : i = a
    · subst e2; simp [e,ha]
    · simp [e,e2]
theorem placeF_at {l : List Stk} (hd : (l.map (·.1)).Nodup) {a : Nat} (ha : a < l.length) : placeF l l[a].1 = a := by
  have : l.findIdx? (fun p : Stk => p.1 == l[a].1) = some a := by
    rw [List.findIdx?_eq_some_iff_getElem]
    refine ⟨ha,bnn _,fun j hj => ?_⟩
    simp only [bytes_eq,ne_eq]
    intro e
    have := List.pairwise_iff_getElem.1 hd j a (by simp; omega) (by simpa using ha) hj
    simp only [List.getElem_map] at this
    exact this e
  unfold placeF idx
  rw [this]
def more (v : Voy) (l : List Loan) : Voy := { v with loans := v.loans ++ l }
theorem more_ok (v : Voy) (l : List Loan) : voyOk (more v l) = voyOk v := rfl
theorem lendF_more (v : Voy) (m : List Loan) : ∀ (l : List Loan) (s : List Int × List Int),lendF (more v m) l s = lendF v l s
  | [],_ => rfl
  | x :: r,s => by
    simp only [lendF]
    have : lend1 (more v m) s x = lend1 v s x := rfl
    rw [this]
    split
    · exact lendF_more v m r _
    · rfl
theorem claims_more {v : Voy} {c : List Int} (h : claimsF v = some c) (m : List Loan) (hm : v.loans.length + m.length ≤ 12) : ∃ n,n.length = v.lend.length ∧ c.length = v.lend.length ∧ (neg n || neg c) = false ∧ claimsF (more v m) = match lendF v m (n,c) with
    | some (n,c) => if (neg n || neg c) = true then none else some c
    | none => none := by
  have hc := (claims_facts h).1
  unfold claimsF at h
  split at h
  · cases h
  · split at h
    · rename_i n c' hl
      split at h
      · cases h
      · rename_i hn
        simp only [Option.some.injEq] at h
        subst h
        have hn1 : n.length = v.lend.length := by
          have key : ∀ (l : List Loan) {s s' : List Int × List Int},s.1.length = v.lend.length → s.2.length = v.lend.length → lendF v l s = some s' → s'.1.length = v.lend.length := by
            intro l
            induction l with
            | nil => intro s s' h1 _ h; simp only [lendF,Option.some.injEq] at h; subst h; exact h1
            | cons x r ih =>
              intro s s' h1 h2 h
              simp only [lendF] at h
              split at h
              · rename_i s1 hs1
                obtain ⟨_,k1,k2⟩ := lend1_sum h1 h2 hs1
                exact ih k1 k2 h
              · cases h
          exact key _ (by simp) (by simp) hl
        refine ⟨n,hn1,hc,by simpa using hn,?_⟩
        unfold claimsF
        rw [if_neg (by simp only [more,List.length_append]; omega)]
        have : lendF (more v m) (more v m).loans (wts (more v m).lend,c8 (more v m).lend) = lendF v (v.loans ++ m) (wts v.lend,c8 v.lend) := lendF_more v m _ _
        rw [this,lendF_append,hl]
        rfl
    · cases h
theorem loan_fine {v : Voy} (hd : (v.lend.map (·.1)).Nodup) {a b : Nat} (ha : a < v.lend.length) (hb : b < v.lend.length) (hab : a ≠ b) {N r : Int} (h1 : 1 ≤ N ∧ N ≤ 1000) (h2 : 0 ≤ r ∧ r ≤ 8) : loanBad v ⟨v.lend[a].1,v.lend[b].1,N,r⟩ = false := by
  unfold loanBad
  rw [placeF_at hd ha,placeF_at hd hb]
  simp [h1,h2]
  omega
theorem lent_back {v : Voy} (hk : checkF v = 0) {a b : Nat} (ha : a < v.lend.length) (hb : b < v.lend.length) (hab : a ≠ b) {N r : Int} (h1 : 1 ≤ N ∧ N ≤ 1000) (h2 : 0 ≤ r ∧ r ≤ 8) (hl : v.loans.length + 2 ≤ 12) : checkF (more v [⟨v.lend[a].1,v.lend[b].1,N,r⟩,⟨v.lend[b].1,v.lend[a].1,N,r⟩]) = 0 ∧ allClaims (more v [⟨v.lend[a].1,v.lend[b].1,N,r⟩,⟨v.lend[b].1,v.lend[a].1,N,r⟩]) = allClaims v := by
  obtain ⟨hvo,c,hc⟩ := check_ok hk
  have hd := stakes_nodup (hvo.st 1 (by omega))
  obtain ⟨n,k1,k2,k3,k4⟩ := claims_more hc [⟨v.lend[a].1,v.lend[b].1,N,r⟩,⟨v.lend[b].1,v.lend[a].1,N,r⟩] hl
  have e1 := loan_fine (v := v) hd ha hb hab h1 h2
  have e2 := loan_fine (v := v) hd hb ha hab.symm h1 h2
  have e3 := placeF_at (l := v.lend) hd ha
  have e4 := placeF_at (l := v.lend) hd hb
  have : claimsF (more v [⟨v.lend[a].1,v.lend[b].1,N,r⟩,⟨v.lend[b].1,v.lend[a].1,N,r⟩]) = some c := by
    rw [k4]
    simp only [lendF,lend1,e1,e2,Bool.false_eq_true,if_false,e3,e4,Int.toNat_natCast]
    rw [upd_back _ (by omega) (by omega) hab,upd_back _ (by omega) (by omega) hab,k3]
    rfl
  have hv0 : voyOk v = true := voyOk_iff.2 hvo
  have hcf : checkF (more v [⟨v.lend[a].1,v.lend[b].1,N,r⟩,⟨v.lend[b].1,v.lend[a].1,N,r⟩]) = 0 := by
    unfold checkF
    rw [more_ok,hv0,this]
    rfl
  refine ⟨hcf,?_⟩
  unfold allClaims
  rw [hcf,hk,this,hc]
theorem lent_free {v : Voy} (hk : checkF v = 0) {a b : Nat} (ha : a < v.lend.length) (hb : b < v.lend.length) (hab : a ≠ b) {N : Int} (h1 : 1 ≤ N ∧ N ≤ 1000) (hl : v.loans.length + 1 ≤ 12) : (checkF (more v [⟨v.lend[a].1,v.lend[b].1,N,8⟩]) = 0 ∧ allClaims (more v [⟨v.lend[a].1,v.lend[b].1,N,8⟩]) = allClaims v) ∨ (checkF (more v [⟨v.lend[a].1,v.lend[b].1,N,8⟩]) = 31 ∧ allClaims (more v [⟨v.lend[a].1,v.lend[b].1,N,8⟩]) = []) := by
  obtain ⟨hvo,c,hc⟩ := check_ok hk
  have hd := stakes_nodup (hvo.st 1 (by omega))
  obtain ⟨n,k1,k2,k3,k4⟩ := claims_more hc [⟨v.lend[a].1,v.lend[b].1,N,8⟩] hl
  have e1 := loan_fine (v := v) hd ha hb hab h1 (show (0 : Int) ≤ 8 ∧ (8 : Int) ≤ 8 by omega)
  have e3 := placeF_at (l := v.lend) hd ha
  have e4 := placeF_at (l := v.lend) hd hb
  have hv0 : voyOk v = true := voyOk_iff.2 hvo
  simp only [lendF,lend1,e1,Bool.false_eq_true,if_false,e3,e4,Int.toNat_natCast,show (8 : Int) - 8 = 0 by omega,Int.zero_mul] at k4
  rw [upd_zero (by omega) (by omega) hab] at k4
  cases hn : (neg (upd n a b N) || neg c) with
  | true =>
    right
    rw [hn] at k4
    simp only [if_true] at k4
    have hcf : checkF (more v [⟨v.lend[a].1,v.lend[b].1,N,8⟩]) = 31 := by
      unfold checkF
      rw [more_ok,hv0,k4]
      rfl
    refine ⟨hcf,?_⟩
    unfold allClaims
    rw [hcf]; rfl
  | false =>
    left
    rw [hn] at k4
    simp only [Bool.false_eq_true,if_false] at k4
    have hcf : checkF (more v [⟨v.lend[a].1,v.lend[b].1,N,8⟩]) = 0 := by
      unfold checkF
      rw [more_ok,hv0,k4]
      rfl
    refine ⟨hcf,?_⟩
    unfold allClaims
    rw [hcf,hk,k4,hc]
theorem allClaims_facts {v : Voy} (hk : checkF v = 0) : (allClaims v).length = v.lend.length ∧ (∀ x ∈ allClaims v,0 ≤ x) ∧ sumI (allClaims v) = 8 * sumI (wts v.lend) ∧ 0 ≤ sumI (wts v.lend) ∧ sumI (wts v.lend) ≤ 10000 ∧ v.lend.length ≤ 10 := by
  obtain ⟨hvo,c,hc⟩ := check_ok hk
  obtain ⟨k1,k2,k3⟩ := claims_facts hc
  have e : allClaims v = c := by unfold allClaims; rw [if_pos hk,hc]; rfl
  have hs := stakes_sum (hvo.st 1 (by omega))
  simp only [partL] at hs
  have hl := hvo.lend.1
  rw [e]
  refine ⟨k1,k3,?_,by omega,by omega,hl⟩
  have := (sumI_eq (B := 80000) (by omega) c (fun x hx => ⟨k3 x hx,by have := mem_le_sum k3 x hx; omega⟩) (by omega)).1
  rw [this,k2,hs.1]
noncomputable def pgL (ctx : Ctx) : Pg := { pg ctx with fz := fun k => k == 19 || k == 25 }
@[simp] theorem pgL_tbl (ctx : Ctx) : (pgL ctx).tbl = tbl := rfl
@[simp] theorem pgL_ctx (ctx : Ctx) : (pgL ctx).ctx = ctx := rfl
@[simp] theorem pgL_keys (ctx : Ctx) : (pgL ctx).keys = [] := rfl
@[simp] theorem pgL_inl (ctx : Ctx) (k d : Nat) (σ : St) (a : List V) : (pgL ctx).inl k d σ a = none := rfl
@[simp] theorem pgL_fz (ctx : Ctx) (k : Nat) : (pgL ctx).fz k = (k == 19 || k == 25) := rfl
@[simp] theorem pgL_yl (ctx : Ctx) : (pgL ctx).yl = none := rfl
@[simp] theorem pgL_eqs (ctx : Ctx) : (pgL ctx).eqs = [(94,[.int,.int,.int]),(117,[.str,.int,.int,.int,.int]),(53,[.str,.int,.int,.int])] := rfl
@[simp] theorem pgL_deep (ctx : Ctx) : (pgL ctx).deep = [88,76] := rfl
@[simp] theorem pgL_pin (ctx : Ctx) : (pgL ctx).pin = [] := rfl
@[simp] theorem pgL_hd (ctx : Ctx) (k : Nat) : (pgL ctx).hd k = false := rfl
@[simp] theorem pgL_itrH (ctx : Ctx) (k : Nat) (b : List (Nat × Blk)) (c : List V) : (pgL ctx).itrH k b c = none := rfl
theorem tokL (ctx : Ctx) : TOk (pgL ctx) := ⟨(tok ctx).tt,(tok ctx).ee,(tok ctx).kk,(tok ctx).zv⟩
theorem ctxL_ok {ctx : Ctx} (hC : CtxOk (pg ctx)) : CtxOk (pgL ctx) := { c := hC.c,b := hC.b,s := hC.s,l := hC.l,i := hC.i,t := hC.t,h := hC.h }
theorem modI_range (n : Int) {d : Int} (hd : 0 < d) (hb : d < 4611686018427387904) : 0 ≤ modI n d ∧ modI n d < d := by
  unfold modI
  have h1 := Int.tmod_lt_of_pos n hd
  have h2 : -d < n.tmod d := by
    have := Int.lt_tmod_of_pos n hd
    omega
  split
  · rw [wrap_id (by omega) (by omega)]; omega
  · omega
def lawC (v : Voy) (l : List FV) : List FV := [.int .i64 v.gross,.sl false 1 (ints v.costs),.int .i64 v.boat,.int .i64 v.nets,.int .i64 v.crew,.sl false 2 (stL v.own),.sl false 2 (stL v.lend),.sl false 2 (stL v.hand),.sl false 4 l]
section
variable {G : Pg} {L : Live} {N n id : Nat} {σ σ' : St} {Q : Ex → St → Prop} {ops : Array Oper}
theorem ev_lateC {T : List (Nat × Plan)} {pl : Plan} (h2 : lk id T = some pl)
    (h3 : planOk ops.toList pl = false) (h3' : planLate ops.toList pl = true) (h4 : ((dsts ops.toList pl.length).all fun d => decide (d < N)) = true) {fs : List Bool} (hfs : lateF ops.toList pl.length = fs)
    {on : Oper} (hon : ops.toList[pl.length]? = some on) {σp σf : St} (hp : prep (dstsP ops.toList pl) (makers ops.toList pl.length) σ = σp) (hf : drawA G (kof L id).1 N ops.toList pl (ops.toList.take pl.length) σp = some σf)
    {s : Nat} {b : Blk} {q : Option (Nat × FV)} (hst : stoB G N ⟨rmL (lateD ops.toList fs) σf.env,σf.blk,[]⟩ on = some (s,b,q)) (hpre : lk s σp.blk ≠ none) (hdd : ∀ d,on.dst = some d → d ∉ dsts ops.toList pl.length ∧ lk d σp.env = none) (hlc : lateC G (kof L id).1 (stoE σf s b q) pl ops.toList fs)
    (h5 : finO (kof L id) (runOps G (kof L id).1 N ops.toList (ops.toList.drop (pl.length + 1)) (stoE σf s b q)) = some σ') (h6 : Q .normal σ') :
    Ev (exec G L N (drawC T G L N) n (.region id ops true) σ) Q := by
  obtain ⟨τ,h5',rfl⟩ := finO_eq h5
  subst hfs
  subst hp
  have e : drawC T G L N id ops.toList σ = some τ := by
    unfold drawC drawT
    rw [h2]
    simp only
    rw [if_neg (by simp [h3]),if_pos (by rw [h3',h4]; rfl)]
    unfold lateP
    rw [hf,hon]
    simp only [hst]
    rw [if_pos ⟨hpre,hdd,hlc⟩]
    exact h5'
  simp only [exec,e,if_true]
  unfold Ev
  exact h6
end
def T10f : List (Nat × Plan) := T10.filter fun e => e.1 != 24
theorem v10 (ctx : Ctx) (hC0 : CtxOk (pg ctx)) (h17 : H17 ctx) (h18 : H18 ctx) (h19 : H19 ctx) (h32 : H32 ctx) (h33 : H33 ctx) (h34 : H34 ctx) (v : Voy) (hv : Small v) (n0 n1 n2 n3 : Int) : Valid Tryd.prog 10 [(false,voyF v),(false,.agg [.int .i64 n0,.int .i64 n1,.int .i64 n2,.int .i64 n3])] [.fv (.bool true)] := by
  have hT := tokL ctx
  have hC := ctxL_ok hC0
  refine valid_of_evC (G := pgL ctx) hT hC mixed Tryd.func10 T10f L10 (by simp [Tryd.ntmps10]) ⟨_,rfl,?_⟩
  simp only [Tryd.ntmps10,Tryd.results10,initSt,initEnv,voyF,voyC]
  have e19 := h19 v hv
  have e33 := h33 v hv
  simp only [voyF,voyC] at e19 e33
  have e18 : ctx 18 [] = some [.fv (.bool true)] := h18
  refine ev_seq (ev_reg (by simp; rfl) ?_)
  by_cases hk : checkF v = 0
  · obtain ⟨a1,a2,a3,a4,a5,a6⟩ := allClaims_facts hk
    refine ev_seq (ev_reg (by simp [e19,ownF]; rfl) ?_)
    refine ev_seq (ev_seq (ev_reg (by simp [hk,e33]; rfl) ?_))
    refine ev_cond rfl (fun hb => ?_) (fun hb => ?_)
    · simp at hb
    · refine ev_skip ?_
      obtain ⟨c,hcc⟩ : ∃ c,allClaims v = c := ⟨_,rfl⟩
      rw [hcc] at a1 a2 a3 e19
      simp only [hcc]
      refine ev_seq (ev_reg (by simp; rfl) ?_)
      refine ev_seq (ev_seq (ev_reg (by simp; rfl) ?_))
      refine ev_block ?_
      refine ev_loop (fun i : Nat => ({ env := [(2,V.ptr 2 0),(3,V.ptr 3 0),(5,.own 5 0 c.length),(7,.fv false (.int .i64 (sumI (wts (v.lend.take i))))),(8,.fv false (.int .i64 i))],blk := [(2,.box [.fv false (.int .i64 v.gross),.fv false (.sl false 1 (ints v.costs)),.fv false (.int .i64 v.boat),.fv false (.int .i64 v.nets),.fv false (.int .i64 v.crew),.fv false (.sl false 2 (stL v.own)),.fv false (.sl false 2 (stL v.lend)),.fv false (.sl false 2 (stL v.hand)),.fv false (.sl false 4 (loL v.loans))]),(3,.box [.fv false (.int .i64 n0),.fv false (.int .i64 n1),.fv false (.int .i64 n2),.fv false (.int .i64 n3)]),(5,.arr 1 (ints c))] } : St)) (fun i => v.lend.length - i) (fun i => i ≤ v.lend.length) 0 (by simp [wts,sumI]) (by simp) (by simp [R]; omega) (fun i hi => ?_)
      refine ev_seq (ev_seq (ev_reg (by simp; rfl) ?_))
      refine ev_cond rfl (fun hb => ?_) (fun hb => ?_)
      · have hil : i < v.lend.length := by simp at hb; omega
        have hs : sumI (wts (v.lend.take (i + 1))) = IntKind.i64.wrap (sumI (wts (v.lend.take i)) + v.lend[i].2) := by
          rw [wts_take _ _ hil]; simp [sumI,List.foldl_append]
        refine ev_skip ?_
        refine ev_seq (ev_block ?_)
        refine ev_reg (by simp [hil]; rfl) ?_
        refine ev_reg (by simp; rfl) ?_
        refine ⟨i + 1,?_,by omega,by omega⟩
        simp [hs]
        exact wrap_nat (n := i + 1) (by omega)
      · have hil : i = v.lend.length := by simp at hb; omega
        subst hil
        rw [List.take_length]
        have e34 : ∀ r c',ctx 34 [(r,.sl c' 1 (ints c))] = some [.fv (.int .i64 (8 * sumI (wts v.lend)))] := fun r c' => by rw [h34 _ _ _ (by omega),a3]
        have hw8 : IntKind.i64.wrap (8 * sumI (wts v.lend)) = 8 * sumI (wts v.lend) := wrap_id (by omega) (by omega)
        refine ev_exit ?_
        refine ev_seq (ev_seq (ev_reg (by simp [← a1,e34,hw8]; rfl) ?_))
        refine ev_cond rfl (fun hb => ?_) (fun hb => ?_)
        · simp at hb
        · refine ev_skip ?_
          refine ev_seq (ev_seq (ev_reg (by simp; rfl) ?_))
          refine ev_block ?_
          refine ev_loop (fun i : Nat => ({ env := [(2,V.ptr 2 0),(3,V.ptr 3 0),(5,.own 5 0 c.length),(9,.fv false (.int .i64 i))],blk := [(2,.box [.fv false (.int .i64 v.gross),.fv false (.sl false 1 (ints v.costs)),.fv false (.int .i64 v.boat),.fv false (.int .i64 v.nets),.fv false (.int .i64 v.crew),.fv false (.sl false 2 (stL v.own)),.fv false (.sl false 2 (stL v.lend)),.fv false (.sl false 2 (stL v.hand)),.fv false (.sl false 4 (loL v.loans))]),(3,.box [.fv false (.int .i64 n0),.fv false (.int .i64 n1),.fv false (.int .i64 n2),.fv false (.int .i64 n3)]),(5,.arr 1 (ints c))] } : St)) (fun i => c.length - i) (fun i => i ≤ c.length) 0 (by simp) (by simp) (by simp [R]; omega) (fun i hi => ?_)
          refine ev_seq (ev_seq (ev_reg (by simp; rfl) ?_))
          refine ev_cond rfl (fun hb => ?_) (fun hb => ?_)
          · have hil : i < c.length := by simp at hb; omega
            have hc0 : 0 ≤ c[i] := a2 _ (List.getElem_mem _)
            have hc1 : ¬ c[i] < 0 := by omega
            refine ev_skip ?_
            refine ev_seq (ev_block ?_)
            refine ev_seq (ev_reg (by simp [hil]; rfl) ?_)
            refine ev_cond rfl (fun hb => ?_) (fun hb => ?_)
            · simp [hc1] at hb
            · refine ev_skip ?_
              refine ev_reg (by simp; rfl) ?_
              refine ⟨i + 1,?_,by omega,by omega⟩
              simp
              exact wrap_nat (n := i + 1) (by omega)
          · clear hb hi
            refine ev_exit ?_
            have hll : v.loans.length ≤ 12 := by
              obtain ⟨_,c',hc'⟩ := check_ok hk
              exact loans_le hc'
            have hwl : IntKind.i64.wrap ((v.loans.length : Int) + 2) = (v.loans.length : Int) + 2 := wrap_id (by omega) (by omega)
            by_cases hg1 : (c.length : Int) < 2
            · refine ev_seq (ev_seq (ev_reg (by simp [hg1,unsetS]; rfl) ?_))
              refine ev_cond rfl (fun hb => ?_) (fun hb => ?_)
              · refine ev_seq (ev_reg (by simp [e18]; rfl) ?_)
                refine ev_ret ?_
                simp
              · simp at hb
            by_cases hg2 : 12 < (v.loans.length : Int) + 2
            · refine ev_seq (ev_seq (ev_reg (by simp [hg1,hg2,hwl,unsetS]; rfl) ?_))
              refine ev_cond rfl (fun hb => ?_) (fun hb => ?_)
              · refine ev_seq (ev_reg (by simp [e18]; rfl) ?_)
                refine ev_ret ?_
                simp
              · simp at hb
            refine ev_seq (ev_seq (ev_reg (by simp [hg1,hg2,hwl,unsetS]; rfl) ?_))
            refine ev_cond rfl (fun hb => ?_) (fun hb => ?_)
            · simp at hb
            have hlen : 2 ≤ c.length := by omega
            have hne : (c.length : Int) ≠ 0 := by omega
            have m0 := modI_range n0 (d := c.length) (by omega) (by omega)
            have m1 := modI_range n1 (d := c.length) (by omega) (by omega)
            have m2 := modI_range n2 (d := 100) (by omega) (by omega)
            have m3 := modI_range n3 (d := 9) (by omega) (by omega)
            have e32a : ∀ r r',ctx 32 [(r,.int .i64 n0),(r',.int .i64 c.length)] = some [.fv (.int .i64 (modI n0 c.length))] := fun r r' => h32 _ _ _ _ hne
            have e32b : ∀ r r',ctx 32 [(r,.int .i64 n1),(r',.int .i64 c.length)] = some [.fv (.int .i64 (modI n1 c.length))] := fun r r' => h32 _ _ _ _ hne
            have e32c : ∀ r r',ctx 32 [(r,.int .i64 n2),(r',.int .i64 100)] = some [.fv (.int .i64 (modI n2 100))] := fun r r' => h32 _ _ _ _ (by omega)
            have e32d : ∀ r r',ctx 32 [(r,.int .i64 n3),(r',.int .i64 9)] = some [.fv (.int .i64 (modI n3 9))] := fun r r' => h32 _ _ _ _ (by omega)
            obtain ⟨A,hA⟩ : ∃ A : Nat,modI n0 c.length = A := ⟨(modI n0 c.length).toNat,by omega⟩
            obtain ⟨B,hB⟩ : ∃ B : Nat,modI n1 c.length = B := ⟨(modI n1 c.length).toNat,by omega⟩
            rw [hA] at m0 e32a
            rw [hB] at m1 e32b
            generalize modI n2 100 = N at m2 e32c
            generalize modI n3 9 = r at m3 e32d
            refine ev_skip ?_
            refine ev_seq (ev_drwC rfl (by kernel_rfl) (by kernel_rfl) (by simp [e32a,e32b]; rfl) ?_)
            refine ev_seq (ev_seq (ev_reg (by simp; rfl) ?_))
            refine ev_cond rfl (fun hb => ?_) (fun hb => ?_)
            · refine ev_seq (ev_reg (by simp [e18]; rfl) ?_)
              refine ev_ret ?_
              simp
            have hab : A ≠ B := by simp at hb; omega
            have hAl : A < v.lend.length := by omega
            have hBl : B < v.lend.length := by omega
            have hwN : IntKind.i64.wrap (1 + N) = 1 + N := wrap_id (by omega) (by omega)
            refine ev_skip ?_
            refine ev_seq (ev_drwC rfl (by kernel_rfl) (by kernel_rfl) (by simp [e32c,e32d,hAl,hBl,hwN]; rfl) ?_)
            refine ev_seq (ev_reg (by simp; rfl) ?_)
            refine ev_seq (ev_lateC rfl (by kernel_rfl) (by kernel_rfl) (by kernel_rfl) (fs := [false,false,true,true,false]) (by kernel_rfl) rfl rfl (by simp; rfl) (by simp; exact ⟨rfl,rfl,rfl⟩) (by simp) (by simp) (by simp) (by simp; rfl) ?_)
            refine ev_seq (ev_all (id := 24) rfl { env := [(2,V.ptr 2 0),(5,.own 5 0 c.length),(12,V.ptr 12 0),(13,V.ptr 13 0),(14,V.ptr 14 0),(15,V.ptr 15 0),(134,.fv false (.agg [.int .i64 v.gross,.sl false 1 (ints v.costs),.int .i64 v.boat,.int .i64 v.nets,.int .i64 v.crew,.sl false 2 (stL v.own),.sl false 2 (stL v.lend),.sl false 2 (stL v.hand),.sl false 4 (loL v.loans)])),(135,.fv false (.agg [.int .i64 v.gross,.sl false 1 (ints v.costs),.int .i64 v.boat,.int .i64 v.nets,.int .i64 v.crew,.sl false 2 (stL v.own),.sl false 2 (stL v.lend),.sl false 2 (stL v.hand),.sl false 4 (loL v.loans)]))],blk := [(2,.box [.fv false (.int .i64 v.gross),.fv false (.sl false 1 (ints v.costs)),.fv false (.int .i64 v.boat),.fv false (.int .i64 v.nets),.fv false (.int .i64 v.crew),.fv false (.sl false 2 (stL v.own)),.fv false (.sl false 2 (stL v.lend)),.fv false (.sl false 2 (stL v.hand)),.fv false (.sl false 4 (loL v.loans))]),(5,.arr 1 (ints c)),(12,.box [.fv false (.str v.lend[A].1),.fv false (.str v.lend[B].1),.fv false (.int .i64 (1 + N)),.fv false (.int .i64 r)]),(13,.box [.fv false (.str v.lend[B].1),.fv false (.str v.lend[A].1),.fv false (.int .i64 (1 + N)),.fv false (.int .i64 r)]),(14,.box [.fv false (.int .i64 v.gross),.fv false (.sl false 1 (ints v.costs)),.fv false (.int .i64 v.boat),.fv false (.int .i64 v.nets),.fv false (.int .i64 v.crew),.fv false (.sl false 2 (stL v.own)),.fv false (.sl false 2 (stL v.lend)),.fv false (.sl false 2 (stL v.hand)),.fv false (.sl false 4 (loL v.loans))]),(15,.box [.fv false (.int .i64 v.gross),.fv false (.sl false 1 (ints v.costs)),.fv false (.int .i64 v.boat),.fv false (.int .i64 v.nets),.fv false (.int .i64 v.crew),.fv false (.sl false 2 (stL v.own)),.fv false (.sl false 2 (stL v.lend)),.fv false (.sl false 2 (stL v.hand)),.fv false (.sl false 4 (loL v.loans))])] } ?_ ?_)
            · simp only [k10_24]
              refine allR_step (l := [0,1,2,3]) (by kernel_rfl) (by simp) ?_
              refine ⟨?_,?_,?_,?_,trivial⟩
              · refine ⟨_,_,rfl,by simp [step1]; rfl,?_⟩
                refine allR_step (l := [1,2,3]) (by kernel_rfl) (by simp) ?_
                refine ⟨?_,?_,?_,trivial⟩
                · refine ⟨_,_,rfl,by simp [step1]; rfl,?_⟩
                  refine allR_step (l := [2,3]) (by kernel_rfl) (by simp) ?_
                  refine ⟨?_,?_,trivial⟩
                  · refine ⟨_,_,rfl,by simp [step1]; rfl,?_⟩
                    refine allR_step (l := [3]) (by kernel_rfl) (by simp) ?_
                    refine ⟨?_,trivial⟩
                    refine ⟨_,_,rfl,by simp [step1]; rfl,?_⟩
                    refine allR_step (l := [4]) (by kernel_rfl) (by simp) ?_
                    refine ⟨?_,trivial⟩
                    refine ⟨_,_,rfl,by simp [step1]; rfl,?_⟩
                    refine allR_step (l := [5]) (by kernel_rfl) (by simp) ?_
                    refine ⟨?_,trivial⟩
                    refine ⟨_,_,rfl,by simp [step1]; rfl,?_⟩
                    exact ⟨by kernel_rfl,rfl⟩
                  · refine ⟨_,_,rfl,by simp [step1]; rfl,?_⟩
                    refine allR_step (l := [2]) (by kernel_rfl) (by simp) ?_
                    refine ⟨?_,trivial⟩
                    refine ⟨_,_,rfl,by simp [step1]; rfl,?_⟩
                    refine allR_step (l := [4]) (by kernel_rfl) (by simp) ?_
                    refine ⟨?_,trivial⟩
                    refine ⟨_,_,rfl,by simp [step1]; rfl,?_⟩
                    refine allR_step (l := [5]) (by kernel_rfl) (by simp) ?_
                    refine ⟨?_,trivial⟩
                    refine ⟨_,_,rfl,by simp [step1]; rfl,?_⟩
                    exact ⟨by kernel_rfl,rfl⟩
                · refine ⟨_,_,rfl,by simp [step1]; rfl,?_⟩
                  refine allR_step (l := [1,3]) (by kernel_rfl) (by simp) ?_
                  refine ⟨?_,?_,trivial⟩
                  · refine ⟨_,_,rfl,by simp [step1]; rfl,?_⟩
                    refine allR_step (l := [3]) (by kernel_rfl) (by simp) ?_
                    refine ⟨?_,trivial⟩
                    refine ⟨_,_,rfl,by simp [step1]; rfl,?_⟩
                    refine allR_step (l := [4]) (by kernel_rfl) (by simp) ?_
                    refine ⟨?_,trivial⟩
                    refine ⟨_,_,rfl,by simp [step1]; rfl,?_⟩
                    refine allR_step (l := [5]) (by kernel_rfl) (by simp) ?_
                    refine ⟨?_,trivial⟩
                    refine ⟨_,_,rfl,by simp [step1]; rfl,?_⟩
                    exact ⟨by kernel_rfl,rfl⟩
                  · refine ⟨_,_,rfl,by simp [step1]; rfl,?_⟩
                    refine allR_step (l := [1,4]) (by kernel_rfl) (by simp) ?_
                    refine ⟨?_,?_,trivial⟩
                    · refine ⟨_,_,rfl,by simp [step1]; rfl,?_⟩
                      refine allR_step (l := [4]) (by kernel_rfl) (by simp) ?_
                      refine ⟨?_,trivial⟩
                      refine ⟨_,_,rfl,by simp [step1]; rfl,?_⟩
                      refine allR_step (l := [5]) (by kernel_rfl) (by simp) ?_
                      refine ⟨?_,trivial⟩
                      refine ⟨_,_,rfl,by simp [step1]; rfl,?_⟩
                      exact ⟨by kernel_rfl,rfl⟩
                    · refine ⟨_,_,rfl,by simp [step1]; rfl,?_⟩
                      refine allR_step (l := [1]) (by kernel_rfl) (by simp) ?_
                      refine ⟨?_,trivial⟩
                      refine ⟨_,_,rfl,by simp [step1]; rfl,?_⟩
                      refine allR_step (l := [5]) (by kernel_rfl) (by simp) ?_
                      refine ⟨?_,trivial⟩
                      refine ⟨_,_,rfl,by simp [step1]; rfl,?_⟩
                      exact ⟨by kernel_rfl,rfl⟩
                · refine ⟨_,_,rfl,by simp [step1]; rfl,?_⟩
                  refine allR_step (l := [1,2]) (by kernel_rfl) (by simp) ?_
                  refine ⟨?_,?_,trivial⟩
                  · refine ⟨_,_,rfl,by simp [step1]; rfl,?_⟩
                    refine allR_step (l := [2]) (by kernel_rfl) (by simp) ?_
                    refine ⟨?_,trivial⟩
                    refine ⟨_,_,rfl,by simp [step1]; rfl,?_⟩
                    refine allR_step (l := [4]) (by kernel_rfl) (by simp) ?_
                    refine ⟨?_,trivial⟩
                    refine ⟨_,_,rfl,by simp [step1]; rfl,?_⟩
                    refine allR_step (l := [5]) (by kernel_rfl) (by simp) ?_
                    refine ⟨?_,trivial⟩
                    refine ⟨_,_,rfl,by simp [step1]; rfl,?_⟩
                    exact ⟨by kernel_rfl,rfl⟩
                  · refine ⟨_,_,rfl,by simp [step1]; rfl,?_⟩
                    refine allR_step (l := [1,4]) (by kernel_rfl) (by simp) ?_
                    refine ⟨?_,?_,trivial⟩
                    · refine ⟨_,_,rfl,by simp [step1]; rfl,?_⟩
                      refine allR_step (l := [4]) (by kernel_rfl) (by simp) ?_
                      refine ⟨?_,trivial⟩
                      refine ⟨_,_,rfl,by simp [step1]; rfl,?_⟩
                      refine allR_step (l := [5]) (by kernel_rfl) (by simp) ?_
                      refine ⟨?_,trivial⟩
                      refine ⟨_,_,rfl,by simp [step1]; rfl,?_⟩
                      exact ⟨by kernel_rfl,rfl⟩
                    · refine ⟨_,_,rfl,by simp [step1]; rfl,?_⟩
                      refine allR_step (l := [1]) (by kernel_rfl) (by simp) ?_
                      refine ⟨?_,trivial⟩
                      refine ⟨_,_,rfl,by simp [step1]; rfl,?_⟩
                      refine allR_step (l := [5]) (by kernel_rfl) (by simp) ?_
                      refine ⟨?_,trivial⟩
                      refine ⟨_,_,rfl,by simp [step1]; rfl,?_⟩
                      exact ⟨by kernel_rfl,rfl⟩
              · refine ⟨_,_,rfl,by simp [step1]; rfl,?_⟩
                refine allR_step (l := [0,2,3]) (by kernel_rfl) (by simp) ?_
                refine ⟨?_,?_,?_,trivial⟩
                · refine ⟨_,_,rfl,by simp [step1]; rfl,?_⟩
                  refine allR_step (l := [2,3]) (by kernel_rfl) (by simp) ?_
                  refine ⟨?_,?_,trivial⟩
                  · refine ⟨_,_,rfl,by simp [step1]; rfl,?_⟩
                    refine allR_step (l := [3]) (by kernel_rfl) (by simp) ?_
                    refine ⟨?_,trivial⟩
                    refine ⟨_,_,rfl,by simp [step1]; rfl,?_⟩
                    refine allR_step (l := [4]) (by kernel_rfl) (by simp) ?_
                    refine ⟨?_,trivial⟩
                    refine ⟨_,_,rfl,by simp [step1]; rfl,?_⟩
                    refine allR_step (l := [5]) (by kernel_rfl) (by simp) ?_
                    refine ⟨?_,trivial⟩
                    refine ⟨_,_,rfl,by simp [step1]; rfl,?_⟩
                    exact ⟨by kernel_rfl,rfl⟩
                  · refine ⟨_,_,rfl,by simp [step1]; rfl,?_⟩
                    refine allR_step (l := [2]) (by kernel_rfl) (by simp) ?_
                    refine ⟨?_,trivial⟩
                    refine ⟨_,_,rfl,by simp [step1]; rfl,?_⟩
                    refine allR_step (l := [4]) (by kernel_rfl) (by simp) ?_
                    refine ⟨?_,trivial⟩
                    refine ⟨_,_,rfl,by simp [step1]; rfl,?_⟩
                    refine allR_step (l := [5]) (by kernel_rfl) (by simp) ?_
                    refine ⟨?_,trivial⟩
                    refine ⟨_,_,rfl,by simp [step1]; rfl,?_⟩
                    exact ⟨by kernel_rfl,rfl⟩
                · refine ⟨_,_,rfl,by simp [step1]; rfl,?_⟩
                  refine allR_step (l := [0,3]) (by kernel_rfl) (by simp) ?_
                  refine ⟨?_,?_,trivial⟩
                  · refine ⟨_,_,rfl,by simp [step1]; rfl,?_⟩
                    refine allR_step (l := [3]) (by kernel_rfl) (by simp) ?_
                    refine ⟨?_,trivial⟩
                    refine ⟨_,_,rfl,by simp [step1]; rfl,?_⟩
                    refine allR_step (l := [4]) (by kernel_rfl) (by simp) ?_
                    refine ⟨?_,trivial⟩
                    refine ⟨_,_,rfl,by simp [step1]; rfl,?_⟩
                    refine allR_step (l := [5]) (by kernel_rfl) (by simp) ?_
                    refine ⟨?_,trivial⟩
                    refine ⟨_,_,rfl,by simp [step1]; rfl,?_⟩
                    exact ⟨by kernel_rfl,rfl⟩
                  · refine ⟨_,_,rfl,by simp [step1]; rfl,?_⟩
                    refine allR_step (l := [0]) (by kernel_rfl) (by simp) ?_
                    refine ⟨?_,trivial⟩
                    refine ⟨_,_,rfl,by simp [step1]; rfl,?_⟩
                    refine allR_step (l := [4]) (by kernel_rfl) (by simp) ?_
                    refine ⟨?_,trivial⟩
                    refine ⟨_,_,rfl,by simp [step1]; rfl,?_⟩
                    refine allR_step (l := [5]) (by kernel_rfl) (by simp) ?_
                    refine ⟨?_,trivial⟩
                    refine ⟨_,_,rfl,by simp [step1]; rfl,?_⟩
                    exact ⟨by kernel_rfl,rfl⟩
                · refine ⟨_,_,rfl,by simp [step1]; rfl,?_⟩
                  refine allR_step (l := [0,2]) (by kernel_rfl) (by simp) ?_
                  refine ⟨?_,?_,trivial⟩
                  · refine ⟨_,_,rfl,by simp [step1]; rfl,?_⟩
                    refine allR_step (l := [2]) (by kernel_rfl) (by simp) ?_
                    refine ⟨?_,trivial⟩
                    refine ⟨_,_,rfl,by simp [step1]; rfl,?_⟩
                    refine allR_step (l := [4]) (by kernel_rfl) (by simp) ?_
                    refine ⟨?_,trivial⟩
                    refine ⟨_,_,rfl,by simp [step1]; rfl,?_⟩
                    refine allR_step (l := [5]) (by kernel_rfl) (by simp) ?_
                    refine ⟨?_,trivial⟩
                    refine ⟨_,_,rfl,by simp [step1]; rfl,?_⟩
                    exact ⟨by kernel_rfl,rfl⟩
                  · refine ⟨_,_,rfl,by simp [step1]; rfl,?_⟩
                    refine allR_step (l := [0]) (by kernel_rfl) (by simp) ?_
                    refine ⟨?_,trivial⟩
                    refine ⟨_,_,rfl,by simp [step1]; rfl,?_⟩
                    refine allR_step (l := [4]) (by kernel_rfl) (by simp) ?_
                    refine ⟨?_,trivial⟩
                    refine ⟨_,_,rfl,by simp [step1]; rfl,?_⟩
                    refine allR_step (l := [5]) (by kernel_rfl) (by simp) ?_
                    refine ⟨?_,trivial⟩
                    refine ⟨_,_,rfl,by simp [step1]; rfl,?_⟩
                    exact ⟨by kernel_rfl,rfl⟩
              · refine ⟨_,_,rfl,by simp [step1]; rfl,?_⟩
                refine allR_step (l := [0,1,3]) (by kernel_rfl) (by simp) ?_
                refine ⟨?_,?_,?_,trivial⟩
                · refine ⟨_,_,rfl,by simp [step1]; rfl,?_⟩
                  refine allR_step (l := [1,3]) (by kernel_rfl) (by simp) ?_
                  refine ⟨?_,?_,trivial⟩
                  · refine ⟨_,_,rfl,by simp [step1]; rfl,?_⟩
                    refine allR_step (l := [3]) (by kernel_rfl) (by simp) ?_
                    refine ⟨?_,trivial⟩
                    refine ⟨_,_,rfl,by simp [step1]; rfl,?_⟩
                    refine allR_step (l := [4]) (by kernel_rfl) (by simp) ?_
                    refine ⟨?_,trivial⟩
                    refine ⟨_,_,rfl,by simp [step1]; rfl,?_⟩
                    refine allR_step (l := [5]) (by kernel_rfl) (by simp) ?_
                    refine ⟨?_,trivial⟩
                    refine ⟨_,_,rfl,by simp [step1]; rfl,?_⟩
                    exact ⟨by kernel_rfl,rfl⟩
                  · refine ⟨_,_,rfl,by simp [step1]; rfl,?_⟩
                    refine allR_step (l := [1,4]) (by kernel_rfl) (by simp) ?_
                    refine ⟨?_,?_,trivial⟩
                    · refine ⟨_,_,rfl,by simp [step1]; rfl,?_⟩
                      refine allR_step (l := [4]) (by kernel_rfl) (by simp) ?_
                      refine ⟨?_,trivial⟩
                      refine ⟨_,_,rfl,by simp [step1]; rfl,?_⟩
                      refine allR_step (l := [5]) (by kernel_rfl) (by simp) ?_
                      refine ⟨?_,trivial⟩
                      refine ⟨_,_,rfl,by simp [step1]; rfl,?_⟩
                      exact ⟨by kernel_rfl,rfl⟩
                    · refine ⟨_,_,rfl,by simp [step1]; rfl,?_⟩
                      refine allR_step (l := [1]) (by kernel_rfl) (by simp) ?_
                      refine ⟨?_,trivial⟩
                      refine ⟨_,_,rfl,by simp [step1]; rfl,?_⟩
                      refine allR_step (l := [5]) (by kernel_rfl) (by simp) ?_
                      refine ⟨?_,trivial⟩
                      refine ⟨_,_,rfl,by simp [step1]; rfl,?_⟩
                      exact ⟨by kernel_rfl,rfl⟩
                · refine ⟨_,_,rfl,by simp [step1]; rfl,?_⟩
                  refine allR_step (l := [0,3]) (by kernel_rfl) (by simp) ?_
                  refine ⟨?_,?_,trivial⟩
                  · refine ⟨_,_,rfl,by simp [step1]; rfl,?_⟩
                    refine allR_step (l := [3]) (by kernel_rfl) (by simp) ?_
                    refine ⟨?_,trivial⟩
                    refine ⟨_,_,rfl,by simp [step1]; rfl,?_⟩
                    refine allR_step (l := [4]) (by kernel_rfl) (by simp) ?_
                    refine ⟨?_,trivial⟩
                    refine ⟨_,_,rfl,by simp [step1]; rfl,?_⟩
                    refine allR_step (l := [5]) (by kernel_rfl) (by simp) ?_
                    refine ⟨?_,trivial⟩
                    refine ⟨_,_,rfl,by simp [step1]; rfl,?_⟩
                    exact ⟨by kernel_rfl,rfl⟩
                  · refine ⟨_,_,rfl,by simp [step1]; rfl,?_⟩
                    refine allR_step (l := [0]) (by kernel_rfl) (by simp) ?_
                    refine ⟨?_,trivial⟩
                    refine ⟨_,_,rfl,by simp [step1]; rfl,?_⟩
                    refine allR_step (l := [4]) (by kernel_rfl) (by simp) ?_
                    refine ⟨?_,trivial⟩
                    refine ⟨_,_,rfl,by simp [step1]; rfl,?_⟩
                    refine allR_step (l := [5]) (by kernel_rfl) (by simp) ?_
                    refine ⟨?_,trivial⟩
                    refine ⟨_,_,rfl,by simp [step1]; rfl,?_⟩
                    exact ⟨by kernel_rfl,rfl⟩
                · refine ⟨_,_,rfl,by simp [step1]; rfl,?_⟩
                  refine allR_step (l := [0,1]) (by kernel_rfl) (by simp) ?_
                  refine ⟨?_,?_,trivial⟩
                  · refine ⟨_,_,rfl,by simp [step1]; rfl,?_⟩
                    refine allR_step (l := [1,4]) (by kernel_rfl) (by simp) ?_
                    refine ⟨?_,?_,trivial⟩
                    · refine ⟨_,_,rfl,by simp [step1]; rfl,?_⟩
                      refine allR_step (l := [4]) (by kernel_rfl) (by simp) ?_
                      refine ⟨?_,trivial⟩
                      refine ⟨_,_,rfl,by simp [step1]; rfl,?_⟩
                      refine allR_step (l := [5]) (by kernel_rfl) (by simp) ?_
                      refine ⟨?_,trivial⟩
                      refine ⟨_,_,rfl,by simp [step1]; rfl,?_⟩
                      exact ⟨by kernel_rfl,rfl⟩
                    · refine ⟨_,_,rfl,by simp [step1]; rfl,?_⟩
                      refine allR_step (l := [1]) (by kernel_rfl) (by simp) ?_
                      refine ⟨?_,trivial⟩
                      refine ⟨_,_,rfl,by simp [step1]; rfl,?_⟩
                      refine allR_step (l := [5]) (by kernel_rfl) (by simp) ?_
                      refine ⟨?_,trivial⟩
                      refine ⟨_,_,rfl,by simp [step1]; rfl,?_⟩
                      exact ⟨by kernel_rfl,rfl⟩
                  · refine ⟨_,_,rfl,by simp [step1]; rfl,?_⟩
                    refine allR_step (l := [0]) (by kernel_rfl) (by simp) ?_
                    refine ⟨?_,trivial⟩
                    refine ⟨_,_,rfl,by simp [step1]; rfl,?_⟩
                    refine allR_step (l := [4]) (by kernel_rfl) (by simp) ?_
                    refine ⟨?_,trivial⟩
                    refine ⟨_,_,rfl,by simp [step1]; rfl,?_⟩
                    refine allR_step (l := [5]) (by kernel_rfl) (by simp) ?_
                    refine ⟨?_,trivial⟩
                    refine ⟨_,_,rfl,by simp [step1]; rfl,?_⟩
                    exact ⟨by kernel_rfl,rfl⟩
              · refine ⟨_,_,rfl,by simp [step1]; rfl,?_⟩
                refine allR_step (l := [0,1,2]) (by kernel_rfl) (by simp) ?_
                refine ⟨?_,?_,?_,trivial⟩
                · refine ⟨_,_,rfl,by simp [step1]; rfl,?_⟩
                  refine allR_step (l := [1,2]) (by kernel_rfl) (by simp) ?_
                  refine ⟨?_,?_,trivial⟩
                  · refine ⟨_,_,rfl,by simp [step1]; rfl,?_⟩
                    refine allR_step (l := [2]) (by kernel_rfl) (by simp) ?_
                    refine ⟨?_,trivial⟩
                    refine ⟨_,_,rfl,by simp [step1]; rfl,?_⟩
                    refine allR_step (l := [4]) (by kernel_rfl) (by simp) ?_
                    refine ⟨?_,trivial⟩
                    refine ⟨_,_,rfl,by simp [step1]; rfl,?_⟩
                    refine allR_step (l := [5]) (by kernel_rfl) (by simp) ?_
                    refine ⟨?_,trivial⟩
                    refine ⟨_,_,rfl,by simp [step1]; rfl,?_⟩
                    exact ⟨by kernel_rfl,rfl⟩
                  · refine ⟨_,_,rfl,by simp [step1]; rfl,?_⟩
                    refine allR_step (l := [1,4]) (by kernel_rfl) (by simp) ?_
                    refine ⟨?_,?_,trivial⟩
                    · refine ⟨_,_,rfl,by simp [step1]; rfl,?_⟩
                      refine allR_step (l := [4]) (by kernel_rfl) (by simp) ?_
                      refine ⟨?_,trivial⟩
                      refine ⟨_,_,rfl,by simp [step1]; rfl,?_⟩
                      refine allR_step (l := [5]) (by kernel_rfl) (by simp) ?_
                      refine ⟨?_,trivial⟩
                      refine ⟨_,_,rfl,by simp [step1]; rfl,?_⟩
                      exact ⟨by kernel_rfl,rfl⟩
                    · refine ⟨_,_,rfl,by simp [step1]; rfl,?_⟩
                      refine allR_step (l := [1]) (by kernel_rfl) (by simp) ?_
                      refine ⟨?_,trivial⟩
                      refine ⟨_,_,rfl,by simp [step1]; rfl,?_⟩
                      refine allR_step (l := [5]) (by kernel_rfl) (by simp) ?_
                      refine ⟨?_,trivial⟩
                      refine ⟨_,_,rfl,by simp [step1]; rfl,?_⟩
                      exact ⟨by kernel_rfl,rfl⟩
                · refine ⟨_,_,rfl,by simp [step1]; rfl,?_⟩
                  refine allR_step (l := [0,2]) (by kernel_rfl) (by simp) ?_
                  refine ⟨?_,?_,trivial⟩
                  · refine ⟨_,_,rfl,by simp [step1]; rfl,?_⟩
                    refine allR_step (l := [2]) (by kernel_rfl) (by simp) ?_
                    refine ⟨?_,trivial⟩
                    refine ⟨_,_,rfl,by simp [step1]; rfl,?_⟩
                    refine allR_step (l := [4]) (by kernel_rfl) (by simp) ?_
                    refine ⟨?_,trivial⟩
                    refine ⟨_,_,rfl,by simp [step1]; rfl,?_⟩
                    refine allR_step (l := [5]) (by kernel_rfl) (by simp) ?_
                    refine ⟨?_,trivial⟩
                    refine ⟨_,_,rfl,by simp [step1]; rfl,?_⟩
                    exact ⟨by kernel_rfl,rfl⟩
                  · refine ⟨_,_,rfl,by simp [step1]; rfl,?_⟩
                    refine allR_step (l := [0]) (by kernel_rfl) (by simp) ?_
                    refine ⟨?_,trivial⟩
                    refine ⟨_,_,rfl,by simp [step1]; rfl,?_⟩
                    refine allR_step (l := [4]) (by kernel_rfl) (by simp) ?_
                    refine ⟨?_,trivial⟩
                    refine ⟨_,_,rfl,by simp [step1]; rfl,?_⟩
                    refine allR_step (l := [5]) (by kernel_rfl) (by simp) ?_
                    refine ⟨?_,trivial⟩
                    refine ⟨_,_,rfl,by simp [step1]; rfl,?_⟩
                    exact ⟨by kernel_rfl,rfl⟩
                · refine ⟨_,_,rfl,by simp [step1]; rfl,?_⟩
                  refine allR_step (l := [0,1]) (by kernel_rfl) (by simp) ?_
                  refine ⟨?_,?_,trivial⟩
                  · refine ⟨_,_,rfl,by simp [step1]; rfl,?_⟩
                    refine allR_step (l := [1,4]) (by kernel_rfl) (by simp) ?_
                    refine ⟨?_,?_,trivial⟩
                    · refine ⟨_,_,rfl,by simp [step1]; rfl,?_⟩
                      refine allR_step (l := [4]) (by kernel_rfl) (by simp) ?_
                      refine ⟨?_,trivial⟩
                      refine ⟨_,_,rfl,by simp [step1]; rfl,?_⟩
                      refine allR_step (l := [5]) (by kernel_rfl) (by simp) ?_
                      refine ⟨?_,trivial⟩
                      refine ⟨_,_,rfl,by simp [step1]; rfl,?_⟩
                      exact ⟨by kernel_rfl,rfl⟩
                    · refine ⟨_,_,rfl,by simp [step1]; rfl,?_⟩
                      refine allR_step (l := [1]) (by kernel_rfl) (by simp) ?_
                      refine ⟨?_,trivial⟩
                      refine ⟨_,_,rfl,by simp [step1]; rfl,?_⟩
                      refine allR_step (l := [5]) (by kernel_rfl) (by simp) ?_
                      refine ⟨?_,trivial⟩
                      refine ⟨_,_,rfl,by simp [step1]; rfl,?_⟩
                      exact ⟨by kernel_rfl,rfl⟩
                  · refine ⟨_,_,rfl,by simp [step1]; rfl,?_⟩
                    refine allR_step (l := [0]) (by kernel_rfl) (by simp) ?_
                    refine ⟨?_,trivial⟩
                    refine ⟨_,_,rfl,by simp [step1]; rfl,?_⟩
                    refine allR_step (l := [4]) (by kernel_rfl) (by simp) ?_
                    refine ⟨?_,trivial⟩
                    refine ⟨_,_,rfl,by simp [step1]; rfl,?_⟩
                    refine allR_step (l := [5]) (by kernel_rfl) (by simp) ?_
                    refine ⟨?_,trivial⟩
                    refine ⟨_,_,rfl,by simp [step1]; rfl,?_⟩
                    exact ⟨by kernel_rfl,rfl⟩
            simp
            have hr1 : List.range 1 = [0] := rfl
            have hr2 : List.range 2 = [0,1] := rfl
            have hb1 : v.loans.length * 48 ≤ 140737488355328 := by omega
            have hb2 : (v.loans.length + 2) * 48 ≤ 140737488355328 := by omega
            have hb3 : (v.loans.length + 1) * 48 ≤ 140737488355328 := by omega
            refine ev_seq (ev_drwC rfl (by kernel_rfl) (by kernel_rfl) (by simp [hb1,hb2,hr2]; rfl) ?_)
            have hx1 := lent_back hk hAl hBl hab (N := 1 + N) (r := r) (by omega) (by omega) (by omega)
            have hx2 := lent_free hk hAl hBl hab (N := 1 + N) (by omega) (by omega)
            have sm : ∀ m : List Loan,m.length ≤ 2 → Small (more v m) := fun m hm => by
              obtain ⟨s1,s2,s3,s4,s5⟩ := hv
              refine ⟨s1,s2,s3,s4,?_⟩
              simp only [more,List.length_append]
              omega
            have e19x := h19 (more v [⟨v.lend[A].1,v.lend[B].1,1 + N,r⟩,⟨v.lend[B].1,v.lend[A].1,1 + N,r⟩]) (sm _ (by simp))
            have e19y := h19 (more v [⟨v.lend[A].1,v.lend[B].1,1 + N,8⟩]) (sm _ (by simp))
            rw [hx1.1,hx1.2,hcc] at e19x
            simp only [voyF,voyC,more,loL,List.map_append,List.map_cons,List.map_nil,loF] at e19x
            simp only [loL]
            have htk2 : ∀ x y : FV,List.take (v.loans.length + 2) (List.map loF v.loans ++ [x,y]) = List.map loF v.loans ++ [x,y] := fun x y => List.take_of_length_le (by simp)
            have htk1 : ∀ x : FV,List.take (v.loans.length + 1) (List.map loF v.loans ++ [x]) = List.map loF v.loans ++ [x] := fun x => List.take_of_length_le (by simp)
            refine ev_seq (ev_reg (by simp [e19x,ownF,htk2]; rfl) ?_)
            refine ev_seq (ev_reg (by simp; rfl) ?_)
            refine ev_seq (ev_reg (by simp; rfl) ?_)
            refine ev_seq (ev_drwC rfl (by kernel_rfl) (by kernel_rfl) (by simp [hb1,hb3,hr1]; rfl) ?_)
            have e17 : ∀ r c' r2 c2,ctx 17 [(r,.sl c' 1 (ints c)),(r2,.sl c2 1 (ints c))] = some [.fv (.bool true)] := fun r c' r2 c2 => by rw [h17 _ _ _ _ _ _ (by omega) (by omega)]; simp
            rcases hx2 with ⟨q1,q2⟩ | ⟨q1,q2⟩
            · rw [q1,q2,hcc] at e19y
              simp only [voyF,voyC,more,loL,List.map_append,List.map_cons,List.map_nil,loF] at e19y
              refine ev_seq (ev_reg (by simp [e19y,ownF,htk1]; rfl) ?_)
              refine ev_seq (ev_reg (by simp [e17,e18,unsetS]; rfl) ?_)
              refine ev_ret ?_
              simp
            · rw [q1,q2] at e19y
              simp only [voyF,voyC,more,loL,List.map_append,List.map_cons,List.map_nil,loF] at e19y
              refine ev_seq (ev_reg (by simp [e19y,ownF,htk1]; rfl) ?_)
              refine ev_seq (ev_reg (by simp [e17,e18,unsetS]; rfl) ?_)
              refine ev_ret ?_
              simp
  · have ha : allClaims v = [] := by unfold allClaims; rw [if_neg hk]
    rw [ha] at e19
    refine ev_seq (ev_reg (by simp [e19,ownF]; rfl) ?_)
    have hk2 : (checkF v != 0) = true := by simp [hk]
    refine ev_seq (ev_seq (ev_reg (by simp [hk2,unsetS]; rfl) ?_))
    refine ev_cond rfl (fun hb => ?_) (fun hb => ?_)
    · refine ev_seq (ev_reg (by simp [hk2,e18,unsetS]; rfl) ?_)
      refine ev_ret ?_
      simp
    · simp at hb
end Go.Proofs.YtejodhjhddnbeaaDoor.E
