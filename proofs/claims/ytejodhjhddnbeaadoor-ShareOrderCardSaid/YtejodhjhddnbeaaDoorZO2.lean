/-
  The theorem of the order (ShareOrder): in whatever order owners, lenders, hands, costs and loans are told, each name gets the same, for any voyage; numbers choose the order. Conditions: none.
-/
import Derived.Test.YtejodhjhddnbeaaDoorZ25
import Derived.Test.YtejodhjhddnbeaaDoorZO1
import Derived.Test.YtejodhjhddnbeaaDoorZ18
set_option linter.unusedVariables false
set_option linter.unusedSimpArgs false
namespace Go.Proofs.YtejodhjhddnbeaaDoor.E
open Go Go.RowKit
def GeF (x y : FV) : Prop := ∀ (Fz : Nat → Prop) (w : World) (v : Value),RepF Fz w x v → RepF Fz w y v
theorem ge_refl (x : FV) : GeF x x := fun _ _ _ h => h
theorem ge_nil (sz : Nat) : GeF (.sl true 0 []) (.sl false sz []) := fun Fz w v h => by
  cases h with
  | sl0 _ _ a cap hc => exact .sl0 false sz a cap (by simp)
  | sl _ _ xs b o len cap us hlen hcap hclip hb hsz hc hr =>
    simp at hlen
    subst hlen
    exact .sl0 false sz _ cap (by simp)
theorem ge_agg {xs ys : List FV} (hl : xs.length = ys.length) (h : ∀ (j : Nat) (x y : FV),xs[j]? = some x → ys[j]? = some y → GeF x y) : GeF (.agg xs) (.agg ys) := fun Fz w v hv => by
  cases hv with
  | agg cells vs hs hr =>
    refine .agg ys vs (by omega) fun j y hy => ?_
    have hj : j < ys.length := by
      refine Classical.byContradiction fun hx => ?_
      rw [List.getElem?_eq_none (by omega)] at hy
      cases hy
    have hx : xs[j]? = some (xs[j]'(by omega)) := List.getElem?_eq_getElem (by omega)
    exact h j _ _ hx hy _ _ _ (hr j _ hx)
theorem valid_ge {P : Program} {k : FuncId} {ro : Bool} {x y : FV} {res : List TV} (hv : Valid P k [(ro,y)] res) (h : GeF x y) : Valid P k [(ro,x)] res := fun w Fz Fy vs h1 h2 h3 h4 h5 =>
  hv w Fz Fy vs h1 h2 (by simpa using h3) (fun j p hp => by
    match j with
    | 0 =>
      simp only [List.getElem?_cons_zero,Option.some.injEq] at hp
      subst hp
      obtain ⟨v,e,r⟩ := h4 0 (ro,x) rfl
      exact ⟨v,e,h _ _ _ r⟩
    | j + 1 => simp at hp) h5
def LW (sz : Nat) (xs : List FV) (x : FV) : Prop := x = .sl false sz xs ∨ (xs = [] ∧ x = .sl true 0 [])
theorem LW.ge {sz : Nat} {xs : List FV} {x : FV} (h : LW sz xs x) : GeF x (.sl false sz xs) := by
  rcases h with rfl | ⟨rfl,rfl⟩
  · exact ge_refl _
  · exact ge_nil sz
theorem LW.one {sz : Nat} {xs ys : List FV} {x : FV} (h : LW sz xs x) (h' : LW sz ys x) : xs = ys := by
  rcases h with h | ⟨h1,h2⟩
  · rcases h' with h' | ⟨h3,h4⟩
    · rw [h] at h'; cases h'; rfl
    · rw [h] at h4; cases h4
  · rcases h' with h' | ⟨h3,h4⟩
    · rw [h2] at h'; cases h'
    · rw [h1,h3]
def voyX (v : Voy) (c o l h n : FV) : FV := .agg [.int .i64 v.gross,c,.int .i64 v.boat,.int .i64 v.nets,.int .i64 v.crew,o,l,h,n]
structure VoyW (v : Voy) (c o l h n : FV) : Prop where
  c : LW 1 (ints v.costs) c
  o : LW 2 (stL v.own) o
  l : LW 2 (stL v.lend) l
  h : LW 2 (stL v.hand) h
  n : LW 4 (loL v.loans) n
theorem VoyW.self (v : Voy) : VoyW v (.sl false 1 (ints v.costs)) (.sl false 2 (stL v.own)) (.sl false 2 (stL v.lend)) (.sl false 2 (stL v.hand)) (.sl false 4 (loL v.loans)) := ⟨.inl rfl,.inl rfl,.inl rfl,.inl rfl,.inl rfl⟩
theorem voyX_ge {v : Voy} {c o l h n : FV} (hw : VoyW v c o l h n) : GeF (voyX v c o l h n) (voyF v) := by
  unfold voyX voyF voyC
  refine ge_agg rfl fun j x y hx hy => ?_
  match j with
  | 0 => cases hx; cases hy; exact ge_refl _
  | 1 => cases hx; cases hy; exact hw.c.ge
  | 2 => cases hx; cases hy; exact ge_refl _
  | 3 => cases hx; cases hy; exact ge_refl _
  | 4 => cases hx; cases hy; exact ge_refl _
  | 5 => cases hx; cases hy; exact hw.o.ge
  | 6 => cases hx; cases hy; exact hw.l.ge
  | 7 => cases hx; cases hy; exact hw.h.ge
  | 8 => cases hx; cases hy; exact hw.n.ge
  | j + 9 => simp at hx
theorem voyX_inj {v v' : Voy} {c o l h n c' o' l' h' n' : FV} (hw : VoyW v c o l h n) (hw' : VoyW v' c' o' l' h' n') (e : voyX v c o l h n = voyX v' c' o' l' h' n') : v = v' := by
  unfold voyX at e
  simp only [FV.agg.injEq,List.cons.injEq,FV.int.injEq,true_and,and_true] at e
  obtain ⟨e0,e1,e2,e3,e4,e5,e6,e7,e8⟩ := e
  subst e1; subst e5; subst e6; subst e7; subst e8
  have f1 := ints_inj.1 (hw.c.one hw'.c)
  have f2 := stL_inj.1 (hw.o.one hw'.o)
  have f3 := stL_inj.1 (hw.l.one hw'.l)
  have f4 := stL_inj.1 (hw.h.one hw'.h)
  have f5 := loL_inj.1 (hw.n.one hw'.n)
  cases v; cases v'
  simp only at e0 e2 e3 e4 f1 f2 f3 f4 f5
  subst e0; subst e2; subst e3; subst e4; subst f1; subst f2; subst f3; subst f4; subst f5
  rfl
abbrev VX := { x : Voy × FV × FV × FV × FV × FV // Small x.1 ∧ VoyW x.1 x.2.1 x.2.2.1 x.2.2.2.1 x.2.2.2.2.1 x.2.2.2.2.2 }
noncomputable def F25x : Fm where
  k := 25
  α := VX
  f := fun x => [(false,voyX x.1.1 x.1.2.1 x.1.2.2.1 x.1.2.2.2.1 x.1.2.2.2.2.1 x.1.2.2.2.2.2)]
  g := fun x => [.us 4 (duL (sharesF x.1.1)),.fv (.int .i64 (checkF x.1.1))]
  inj := fun x y hh => by
    simp only [List.cons.injEq,Prod.mk.injEq,true_and,and_true] at hh
    rw [voyX_inj x.2.2 y.2.2 hh]
  ok := fun x => valid_ge (F25.ok ⟨x.1.1,x.2.1⟩) (voyX_ge x.2.2)
  en := F25.en
def H25x (ctx : Ctx) : Prop := ∀ (v : Voy) (c o l h n : FV),Small v → VoyW v c o l h n → ctx 25 [(false,voyX v c o l h n)] = some [.us 4 (duL (sharesF v)),.fv (.int .i64 (checkF v))]
theorem H25x.at {ctx : Ctx} (h : H25x ctx) (v : Voy) (hv : Small v) : ctx 25 [(false,voyF v)] = some [.us 4 (duL (sharesF v)),.fv (.int .i64 (checkF v))] := h v _ _ _ _ _ hv (VoyW.self v)
theorem at25x {L : List Fm} (hL : L.find? (fun G => G.k == 25) = some F25x) : H25x (famCtx L) := fun v c o l h n hv hw => fam_at (F := F25x) hL ⟨(v,c,o,l,h,n),hv,hw⟩ rfl rfl
noncomputable def F21x : Fm where
  k := 21
  α := VX
  f := fun x => [(false,voyX x.1.1 x.1.2.1 x.1.2.2.1 x.1.2.2.2.1 x.1.2.2.2.2.1 x.1.2.2.2.2.2)]
  g := fun x => [.fv (.int .i64 (checkF x.1.1))]
  inj := fun x y hh => by
    simp only [List.cons.injEq,Prod.mk.injEq,true_and,and_true] at hh
    rw [voyX_inj x.2.2 y.2.2 hh]
  ok := fun x => valid_ge (F21.ok ⟨x.1.1,x.2.1⟩) (voyX_ge x.2.2)
  en := F21.en
noncomputable def F19x : Fm where
  k := 19
  α := VX
  f := fun x => [(false,voyX x.1.1 x.1.2.1 x.1.2.2.1 x.1.2.2.2.1 x.1.2.2.2.2.1 x.1.2.2.2.2.2)]
  g := fun x => [.us 1 (ints (allClaims x.1.1)),.fv (.int .i64 (checkF x.1.1))]
  inj := fun x y hh => by
    simp only [List.cons.injEq,Prod.mk.injEq,true_and,and_true] at hh
    rw [voyX_inj x.2.2 y.2.2 hh]
  ok := fun x => valid_ge (F19.ok ⟨x.1.1,x.2.1⟩) (voyX_ge x.2.2)
  en := F19.en
noncomputable def F23x : Fm where
  k := 23
  α := VX
  f := fun x => [(false,voyX x.1.1 x.1.2.1 x.1.2.2.1 x.1.2.2.2.1 x.1.2.2.2.2.1 x.1.2.2.2.2.2)]
  g := fun x => [.fv (.int .i64 ((partsR x.1.1).getD 0 0)),.fv (.int .i64 ((partsR x.1.1).getD 1 0)),.fv (.int .i64 ((partsR x.1.1).getD 2 0)),.fv (.int .i64 (checkF x.1.1))]
  inj := fun x y hh => by
    simp only [List.cons.injEq,Prod.mk.injEq,true_and,and_true] at hh
    rw [voyX_inj x.2.2 y.2.2 hh]
  ok := fun x => valid_ge (F23.ok ⟨x.1.1,x.2.1⟩) (voyX_ge x.2.2)
  en := F23.en
noncomputable def KX : List Fm := F19x :: F21x :: F23x :: F25x :: KL
noncomputable def pgL (ctx : Ctx) : Pg := { pg ctx with fz := fun k => k == 19 || k == 25 }
@[simp] theorem pgL_tbl (ctx : Ctx) : (pgL ctx).tbl = tbl := rfl
@[simp] theorem pgL_ctx (ctx : Ctx) : (pgL ctx).ctx = ctx := rfl
@[simp] theorem pgL_keys (ctx : Ctx) : (pgL ctx).keys = [] := rfl
@[simp] theorem pgL_inl (ctx : Ctx) (k d : Nat) (σ : St) (a : List V) : (pgL ctx).inl k d σ a = none := rfl
@[simp] theorem pgL_fz (ctx : Ctx) (k : Nat) : (pgL ctx).fz k = (k == 19 || k == 25) := rfl
@[simp] theorem pgL_yl (ctx : Ctx) : (pgL ctx).yl = none := rfl
@[simp] theorem pgL_eqs (ctx : Ctx) : (pgL ctx).eqs = [(94,[.int,.int,.int]),(117,[.str,.int,.int,.int,.int]),(53,[.str,.int,.int,.int])] := rfl
@[simp] theorem pgL_deep (ctx : Ctx) : (pgL ctx).deep = [88,76] := rfl
@[simp] theorem pgL_pin (ctx : Ctx) : (pgL ctx).pin = [] := rfl
@[simp] theorem pgL_hd (ctx : Ctx) (k : Nat) : (pgL ctx).hd k = false := rfl
@[simp] theorem pgL_itrH (ctx : Ctx) (k : Nat) (b : List (Nat × Blk)) (c : List V) : (pgL ctx).itrH k b c = none := rfl
theorem tokL (ctx : Ctx) : TOk (pgL ctx) := ⟨(tok ctx).tt,(tok ctx).ee,(tok ctx).kk,(tok ctx).zv⟩
theorem ctxL_ok {ctx : Ctx} (hC : CtxOk (pg ctx)) : CtxOk (pgL ctx) := { c := hC.c,b := hC.b,s := hC.s,l := hC.l,i := hC.i,t := hC.t,h := hC.h }
section
variable {G : Pg} {L : Live} {N n id : Nat} {σ σ' : St} {Q : Ex → St → Prop} {ops : Array Oper}
end
theorem v36 (ctx : Ctx) (hC : CtxOk (pg ctx)) (h32 : H32 ctx) (l : List Stk) (n : Int) (hl : l.length ≤ 10) (ro r1 c : Bool) : Valid Tryd.prog 36 [(ro,.sl c 2 (stL l)),(r1,.int .i64 n)] [.us 2 (stL (roundF l n l.length))] := by
  refine valid_of_ev (G := pg ctx) (tok ctx) hC mixed Tryd.func36 T36 L36 (by simp [Tryd.ntmps36]) ⟨_,rfl,?_⟩
  simp only [Tryd.ntmps36,Tryd.results36,initSt,initEnv]
  have hlb : l.length < 4611686018427387904 := by omega
  refine ev_seq (ev_reg (by simp; rfl) ?_)
  refine ev_seq (ev_reg (by simp; rfl) ?_)
  refine ev_seq (ev_seq (ev_reg (by simp; rfl) ?_))
  refine ev_block ?_
  refine ev_loop (fun i : Nat => ({ env := [(0,V.fv ro (.sl c 2 (stL l))),(1,V.fv r1 (.int .i64 n)),(5,V.own 5 0 (roundF l n i).length),(6,V.fv false (.int .i64 i))],blk := [(5,.arr 2 (stL (roundF l n i)))] } : St)) (fun i => l.length - i) (fun i => i ≤ l.length) 0 (by simp [roundF,stL]) (by simp) (by simp [R]; omega) (fun i hi => ?_)
  have hrl := roundF_length l n hlb i hi
  refine ev_seq (ev_seq (ev_reg (by simp; rfl) ?_))
  refine ev_cond rfl (fun hb => ?_) (fun hb => ?_)
  · simp at hb
    have hne : (l.length : Int) ≠ 0 := by omega
    have hix := rIx_eq (len := l.length) (by omega) hlb n i
    have hm : modI (IntKind.i64.wrap (modI n l.length - i)) l.length = (rIx l.length n i : Int) := by
      have h1 := Int.emod_nonneg n (show (l.length : Int) ≠ 0 by omega)
      have h2 := Int.emod_lt_of_pos n (show 0 < (l.length : Int) by omega)
      rw [modI_emod (n := n) (by omega) (by omega),wrap_id (by omega) (by omega)]
      have := hix.1
      unfold rIx at this ⊢
      rw [modI_emod (n := n) (by omega) (by omega)] at this ⊢
      rw [this,modI_emod (by omega) (by omega),Int.emod_sub_emod]
    have e1 : ∀ r r2,ctx 32 [(r,.int .i64 n),(r2,.int .i64 l.length)] = some [.fv (.int .i64 (modI n l.length))] := fun r r2 => h32 _ _ _ _ hne
    have e2 : ∀ r r2,ctx 32 [(r,.int .i64 (IntKind.i64.wrap (modI n l.length - i))),(r2,.int .i64 l.length)] = some [.fv (.int .i64 (rIx l.length n i))] := fun r r2 => by rw [h32 _ _ _ _ hne,hm]
    have hbd : (i + 1) * 24 ≤ 140737488355328 := by omega
    have hbd2 : (i + 1) * 16 ≤ 140737488355328 := by omega
    have hi2 := hix.2
    refine ev_skip ?_
    refine ev_seq (ev_block ?_)
    refine ev_reg (by simp [e1,e2,hi2,hrl,hbd,hbd2]; rfl) ?_
    refine ev_reg (by simp; rfl) ?_
    refine ⟨i + 1,?_,by omega,by omega⟩
    simp [roundF_succ l n i hi2,hrl,stL,stF]
    exact wrap_nat (n := i + 1) (by omega)
  · simp at hb
    obtain rfl : i = l.length := by omega
    refine ev_exit ?_
    refine ev_seq (ev_reg (by simp; rfl) ?_)
    refine ev_ret ?_
    simp
def H36 (ctx : Ctx) : Prop := ∀ (l : List Stk) (n : Int) (ro r1 c : Bool),l.length ≤ 10 → ctx 36 [(ro,.sl c 2 (stL l)),(r1,.int .i64 n)] = some [.us 2 (stL (roundF l n l.length))]
theorem bd48 {α : Type} {y : α} {r : List α} {b : Nat} (h : (y :: r).length = b) (hb : b ≤ 12) : (r.length + 1 + 1) * 48 ≤ 140737488355328 := by
  simp at h; omega
theorem rIx_mod {len : Nat} (h0 : 0 < len) (hb : len < 4611686018427387904) {n : Int} {i : Nat} (hi : i < len := by omega) : modI (IntKind.i64.wrap (modI n len - i)) len = (rIx len n i : Int) := by
  have h1 := Int.emod_nonneg n (show (len : Int) ≠ 0 by omega)
  have h2 := Int.emod_lt_of_pos n (show 0 < (len : Int) by omega)
  rw [modI_emod (n := n) (by omega) (by omega),wrap_id (by omega) (by omega)]
  have := (rIx_eq h0 hb n i).1
  unfold rIx at this ⊢
  rw [modI_emod (n := n) (by omega) (by omega)] at this ⊢
  rw [this,modI_emod (by omega) (by omega),Int.emod_sub_emod]
def lnV : List Loan → V
  | [] => .fv false (.sl true 0 [])
  | x :: l => .own 81 0 (x :: l).length
def lnB : List Loan → List (Nat × Blk)
  | [] => []
  | x :: l => [(81,.arr 4 (loL (x :: l)))]
def coV : List Int → V
  | [] => .fv false (.sl true 0 [])
  | x :: l => .own 99 0 (x :: l).length
def coB : List Int → List (Nat × Blk)
  | [] => []
  | x :: l => [(99,.arr 1 (ints (x :: l)))]
def st9 (v : Voy) (n0 n1 n2 n3 : Int) (a b c : List Stk) (ln : List Loan) (co : List Int) (e : List (Nat × V)) : St :=
  { env := [(2,V.ptr 2 0),(3,V.ptr 3 0),(5,V.own 5 0 (sharesF v).length),(7,V.ptr 7 0)] ++ e,blk := [(2,.box [.fv false (.int .i64 v.gross),.fv false (.sl false 1 (ints v.costs)),.fv false (.int .i64 v.boat),.fv false (.int .i64 v.nets),.fv false (.int .i64 v.crew),.fv false (.sl false 2 (stL v.own)),.fv false (.sl false 2 (stL v.lend)),.fv false (.sl false 2 (stL v.hand)),.fv false (.sl false 4 (loL v.loans))]),(3,.box [.fv false (.int .i64 n0),.fv false (.int .i64 n1),.fv false (.int .i64 n2),.fv false (.int .i64 n3)]),(5,.arr 4 (duL (sharesF v))),(7,.box [.fv false (.int .i64 v.gross),coV co,.fv false (.int .i64 v.boat),.fv false (.int .i64 v.nets),.fv false (.int .i64 v.crew),.own 39 0 a.length,.own 44 0 b.length,.own 49 0 c.length,lnV ln]),(39,.arr 2 (stL a)),(44,.arr 2 (stL b)),(49,.arr 2 (stL c))] ++ lnB ln ++ coB co }
def st9c (v : Voy) (a b c : List Stk) (ln : List Loan) (co : List Int) (e : List (Nat × V)) : St :=
  { env := [(2,V.ptr 2 0),(5,V.own 5 0 (sharesF v).length),(7,V.ptr 7 0)] ++ e,blk := [(2,.box [.fv false (.int .i64 v.gross),.fv false (.sl false 1 (ints v.costs)),.fv false (.int .i64 v.boat),.fv false (.int .i64 v.nets),.fv false (.int .i64 v.crew),.fv false (.sl false 2 (stL v.own)),.fv false (.sl false 2 (stL v.lend)),.fv false (.sl false 2 (stL v.hand)),.fv false (.sl false 4 (loL v.loans))]),(5,.arr 4 (duL (sharesF v))),(7,.box [.fv false (.int .i64 v.gross),coV co,.fv false (.int .i64 v.boat),.fv false (.int .i64 v.nets),.fv false (.int .i64 v.crew),.own 39 0 a.length,.own 44 0 b.length,.own 49 0 c.length,lnV ln]),(39,.arr 2 (stL a)),(44,.arr 2 (stL b)),(49,.arr 2 (stL c))] ++ lnB ln ++ coB co }
theorem bd8 {α : Type} {y : α} {r : List α} {b : Nat} (h : (y :: r).length = b) (hb : b ≤ 10) : (r.length + 1 + 1) * 8 ≤ 140737488355328 := by
  simp at h; omega
theorem costs_back {l co : List Int} (h : l.reverse = co) {j : Nat} (hj : j < l.length) : ∀ q : Nat,q + 1 + j = l.length → ∀ hq : q < l.length,co.take (j + 1) = co.take j ++ [l[q]] := fun q e hq => by
  subst h
  have hjl : j < l.reverse.length := by simpa using hj
  rw [List.take_add_one,List.getElem?_eq_getElem hjl,Option.toList_some,List.getElem_reverse]
  congr 3
  omega
set_option maxHeartbeats 1600000 in
theorem v9 (ctx : Ctx) (hC0 : CtxOk (pg ctx)) (h18 : H18 ctx) (h25 : H25x ctx) (h27 : H27 ctx) (h32 : H32 ctx) (h33 : H33 ctx) (h36 : H36 ctx) (v : Voy) (hv : Small v) (n0 n1 n2 n3 : Int) : Valid Tryd.prog 9 [(false,voyF v),(false,.agg [.int .i64 n0,.int .i64 n1,.int .i64 n2,.int .i64 n3])] [.fv (.bool true)] := by
  have hT := tokL ctx
  have hC := ctxL_ok hC0
  refine valid_of_ev (G := pgL ctx) hT hC mixed Tryd.func9 T9 L9 (by simp [Tryd.ntmps9]) ⟨_,rfl,?_⟩
  simp only [Tryd.ntmps9,Tryd.results9,initSt,initEnv,voyF,voyC]
  have e25 := h25.at v hv
  have e33 := h33 v hv
  simp only [voyF,voyC] at e25 e33
  have e18 : ctx 18 [] = some [.fv (.bool true)] := h18
  refine ev_seq (ev_reg (by simp; rfl) ?_)
  by_cases hk : checkF v = 0
  · obtain ⟨hvo,cl,hcl⟩ := check_ok hk
    have s1 : v.own.length ≤ 10 := stakes_len (hvo.st 0 (by omega))
    have s2 : v.lend.length ≤ 10 := stakes_len (hvo.st 1 (by omega))
    have s3 : v.hand.length ≤ 10 := stakes_len (hvo.st 2 (by omega))
    have s4 : v.loans.length ≤ 12 := loans_le hcl
    have s5 : v.costs.length ≤ 10 := hvo.cl
    have s6 := shares_len hk
    have pa := roundF_perm v.own n0 (by omega)
    have pb := roundF_perm v.lend n1 (by omega)
    have pc := roundF_perm v.hand n2 (by omega)
    have e36a : ∀ r c,ctx 36 [(r,.sl c 2 (stL v.own)),(false,.int .i64 n0)] = some [.us 2 (stL (roundF v.own n0 v.own.length))] := fun r c => h36 _ _ _ _ _ s1
    have e36b : ∀ r c,ctx 36 [(r,.sl c 2 (stL v.lend)),(false,.int .i64 n1)] = some [.us 2 (stL (roundF v.lend n1 v.lend.length))] := fun r c => h36 _ _ _ _ _ s2
    have e36c : ∀ r c,ctx 36 [(r,.sl c 2 (stL v.hand)),(false,.int .i64 n2)] = some [.us 2 (stL (roundF v.hand n2 v.hand.length))] := fun r c => h36 _ _ _ _ _ s3
    refine ev_seq (ev_reg (by simp [e25,ownF]; rfl) ?_)
    refine ev_seq (ev_seq (ev_reg (by simp [hk,e33]; rfl) ?_))
    refine ev_cond rfl (fun hb => ?_) (fun hb => ?_)
    · simp at hb
    refine ev_skip ?_
    generalize roundF v.own n0 v.own.length = a at e36a pa
    generalize roundF v.lend n1 v.lend.length = b at e36b pb
    generalize roundF v.hand n2 v.hand.length = c at e36c pc
    refine ev_seq (ev_reg (by simp; rfl) ?_)
    refine ev_seq (ev_drw rfl (by kernel_rfl) (by kernel_rfl) (by simp [e36a,e36b,e36c]; rfl) ?_)
    refine ev_seq (ev_reg (by simp; rfl) ?_)
    refine ev_mid (st9 v n0 n1 n2 n3 a b c (roundF v.loans n3 v.loans.length) [] [(8,.fv false (.int .i64 v.loans.length)),(59,.fv false (.bool false))]) ?_ ?_
    · refine ev_seq (ev_reg (by simp; rfl) ?_)
      refine ev_block ?_
      refine ev_loop (fun i : Nat => (st9 v n0 n1 n2 n3 a b c (roundF v.loans n3 i) [] [(8,.fv false (.int .i64 i))] : St)) (fun i => v.loans.length - i) (fun i => i ≤ v.loans.length) 0 (by simp [roundF,st9,lnV,lnB,coV,coB]) (by simp) (by simp [R]; omega) (fun i hi => ?_)
      have hrl := roundF_length v.loans n3 (by omega) i hi
      refine ev_seq (ev_seq (ev_reg (σ' := st9 v n0 n1 n2 n3 a b c (roundF v.loans n3 i) [] [(8,.fv false (.int .i64 i)),(59,.fv false (.bool (decide (i < v.loans.length))))]) (by cases roundF v.loans n3 i <;> simp [st9,lnV,lnB,coV,coB]) ?_))
      refine ev_cond rfl (fun hb => ?_) (fun hb => ?_)
      · have hb : i < v.loans.length := by simp at hb; omega
        have hne : (v.loans.length : Int) ≠ 0 := by omega
        have hix := rIx_eq (len := v.loans.length) (by omega) (by omega) n3 i
        have e1 : ∀ r r2,ctx 32 [(r,.int .i64 n3),(r2,.int .i64 v.loans.length)] = some [.fv (.int .i64 (modI n3 v.loans.length))] := fun r r2 => h32 _ _ _ _ hne
        have e2 : ∀ r r2,ctx 32 [(r,.int .i64 (IntKind.i64.wrap (modI n3 v.loans.length - i))),(r2,.int .i64 v.loans.length)] = some [.fv (.int .i64 (rIx v.loans.length n3 i))] := fun r r2 => by rw [h32 _ _ _ _ hne,rIx_mod (by omega) (by omega)]
        have hi2 := hix.2
        have hsx := roundF_succ v.loans n3 i hi2
        have hbd : (i + 1) * 48 ≤ 140737488355328 := by omega
        have hwi : IntKind.i64.wrap ((i : Int) + 1) = ((i + 1 : Nat) : Int) := wrap_nat (n := i + 1) (by omega)
        refine ev_skip ?_
        refine ev_seq (ev_block ?_)
        cases hr : roundF v.loans n3 i with
        | nil =>
          simp only [st9,lnV,lnB,coV,coB]
          refine ev_drw rfl (by kernel_rfl) (by kernel_rfl) (by simp [e1,e2,hi2]; rfl) ?_
          refine ev_reg (by simp; rfl) ?_
          refine ⟨i + 1,?_,by omega,by omega⟩
          rw [hsx,hr]
          simp [loL,loF]
          exact hwi
        | cons y r =>
          rw [hr] at hrl
          have hbd2 := bd48 hrl (Nat.le_trans hi s4)
          simp only [st9,lnV,lnB,coV,coB]
          refine ev_drw rfl (by kernel_rfl) (by kernel_rfl) (by simp [e1,e2,hi2,hbd2]; rfl) ?_
          refine ev_reg (by simp; rfl) ?_
          refine ⟨i + 1,?_,by omega,by omega⟩
          rw [hsx,hr]
          simp [loL,loF]
          exact hwi
      · have hb : i = v.loans.length := by simp at hb; omega
        subst hb
        refine ev_exit ?_
        exact ⟨rfl,by simp [st9]⟩
    · have pl := roundF_perm v.loans n3 (by omega)
      generalize roundF v.loans n3 v.loans.length = ln at pl
      have pco := List.reverse_perm v.costs
      generalize hco : v.costs.reverse = co at pco
      have hcl2 : co.length = v.costs.length := pco.length_eq
      have hvp : VoyPerm { v with costs := co,own := a,lend := b,hand := c,loans := ln } v := ⟨rfl,rfl,rfl,rfl,pco,pa,pb,pc,pl⟩
      have hk' := hvp.check hk
      have hs' := shares_perm hvp hk
      have hsm : Small { v with costs := co,own := a,lend := b,hand := c,loans := ln } := ⟨by simp only; omega,by simp only; rw [pa.length_eq]; omega,by simp only; rw [pb.length_eq]; omega,by simp only; rw [pc.length_eq]; omega,by simp only; rw [pl.length_eq]; omega⟩
      have e25w := h25 { v with costs := co,own := a,lend := b,hand := c,loans := ln }
      simp only [hk',hs',voyX] at e25w
      have e27 : ∀ r c' r2 c2,ctx 27 [(r,.sl c' 4 (duL (sharesF v))),(r2,.sl c2 4 (duL (sharesF v)))] = some [.fv (.bool true)] := fun r c' r2 c2 => by rw [h27 _ _ _ _ _ _ (by omega) (by omega)]; simp
      have htk : List.take (sharesF v).length (duL (sharesF v)) = duL (sharesF v) := List.take_of_length_le (by simp [duL])
      refine ev_mid (st9c v a b c ln co [(9,.fv false (.int .i64 (-1))),(88,.fv false (.bool false))]) ?_ ?_
      · have hw1 : IntKind.i64.wrap ((v.costs.length : Int) - 1) = (v.costs.length : Int) - 1 - (0 : Nat) := by rw [wrap_id (by omega) (by omega)]; omega
        refine ev_seq (ev_reg (σ' := st9c v a b c ln (co.take 0) [(9,.fv false (.int .i64 ((v.costs.length : Int) - 1 - (0 : Nat))))]) (by cases ln <;> simp [st9,st9c,lnV,lnB,coV,coB] <;> (rw [hw1]; simp)) ?_)
        refine ev_block ?_
        refine ev_loop (fun j : Nat => (st9c v a b c ln (co.take j) [(9,.fv false (.int .i64 ((v.costs.length : Int) - 1 - (j : Nat))))] : St)) (fun j => v.costs.length + 1 - j) (fun j => j ≤ v.costs.length) 0 rfl (by simp) (by simp [R]; omega) (fun j hj => ?_)
        refine ev_seq (ev_seq (ev_reg (σ' := st9c v a b c ln (co.take j) [(9,.fv false (.int .i64 ((v.costs.length : Int) - 1 - (j : Nat)))),(88,.fv false (.bool (decide (0 ≤ (v.costs.length : Int) - 1 - (j : Nat)))))]) (by cases ln <;> cases co.take j <;> simp [st9c,lnV,lnB,coV,coB]) ?_))
        refine ev_cond rfl (fun hb => ?_) (fun hb => ?_)
        · have hb : j < v.costs.length := by simp at hb; omega
          have hx := costs_back hco hb
          obtain ⟨q,hq,hq2⟩ : ∃ q : Nat,(v.costs.length : Int) - 1 - (j : Nat) = q ∧ q < v.costs.length := ⟨v.costs.length - 1 - j,by omega,by omega⟩
          have hx := hx q (by omega) hq2
          have hwq : IntKind.i64.wrap ((q : Int) - 1) = (v.costs.length : Int) - 1 - ((j + 1 : Nat) : Int) := by rw [wrap_id (by omega) (by omega)]; omega
          have hjl : (co.take j).length = j := by simp; omega
          refine ev_skip ?_
          refine ev_seq (ev_block ?_)
          rw [hq]
          cases hln : ln with
          | nil =>
            cases hct : co.take j with
            | nil =>
              simp only [st9c,lnV,lnB,coV,coB]
              refine ev_drw rfl (by kernel_rfl) (by kernel_rfl) (by simp [hq2]; rfl) ?_
              refine ev_reg (by simp; rfl) ?_
              refine ⟨j + 1,?_,by omega,by omega⟩
              rw [hx,hct]
              simp
              exact hwq
            | cons y r =>
              rw [hct] at hjl
              have hbd2 := bd8 hjl (Nat.le_trans hj s5)
              simp only [st9c,lnV,lnB,coV,coB]
              refine ev_drw rfl (by kernel_rfl) (by kernel_rfl) (by simp [hq2,hbd2]; rfl) ?_
              refine ev_reg (by simp; rfl) ?_
              refine ⟨j + 1,?_,by omega,by omega⟩
              rw [hx,hct]
              simp
              exact hwq
          | cons z s =>
            cases hct : co.take j with
            | nil =>
              simp only [st9c,lnV,lnB,coV,coB]
              refine ev_drw rfl (by kernel_rfl) (by kernel_rfl) (by simp [hq2]; rfl) ?_
              refine ev_reg (by simp; rfl) ?_
              refine ⟨j + 1,?_,by omega,by omega⟩
              rw [hx,hct]
              simp
              exact hwq
            | cons y r =>
              rw [hct] at hjl
              have hbd2 := bd8 hjl (Nat.le_trans hj s5)
              simp only [st9c,lnV,lnB,coV,coB]
              refine ev_drw rfl (by kernel_rfl) (by kernel_rfl) (by simp [hq2,hbd2]; rfl) ?_
              refine ev_reg (by simp; rfl) ?_
              refine ⟨j + 1,?_,by omega,by omega⟩
              rw [hx,hct]
              simp
              exact hwq
        · have hb : j = v.costs.length := by simp at hb; omega
          subst hb
          refine ev_exit ?_
          refine ⟨rfl,?_⟩
          rw [List.take_of_length_le (by omega)]
          have : (v.costs.length : Int) - 1 - (v.costs.length : Nat) = -1 := by omega
          rw [this]
          simp
      · cases hln : ln with
        | nil =>
          cases hct : co with
          | nil =>
            have e := e25w (.sl true 0 []) (.sl false 2 (stL a)) (.sl false 2 (stL b)) (.sl false 2 (stL c)) (.sl true 0 []) hsm ⟨.inr ⟨by simp [hct],rfl⟩,.inl rfl,.inl rfl,.inl rfl,.inr ⟨by simp [hln,loL],rfl⟩⟩
            simp only [st9c,lnV,lnB,coV,coB]
            refine ev_seq (ev_reg (by simp [e,ownF]; rfl) ?_)
            refine ev_seq (ev_reg (by simp [e27,e18,htk]; rfl) ?_)
            refine ev_ret ?_
            simp
          | cons y r =>
            have e := e25w (.sl false 1 (ints co)) (.sl false 2 (stL a)) (.sl false 2 (stL b)) (.sl false 2 (stL c)) (.sl true 0 []) hsm ⟨.inl rfl,.inl rfl,.inl rfl,.inl rfl,.inr ⟨by simp [hln,loL],rfl⟩⟩
            rw [hct] at e
            simp only [ints_cons] at e
            simp only [st9c,lnV,lnB,coV,coB]
            refine ev_seq (ev_reg (by simp [e,ownF]; rfl) ?_)
            refine ev_seq (ev_reg (by simp [e27,e18,htk]; rfl) ?_)
            refine ev_ret ?_
            simp
        | cons z s =>
          have htl : List.take (s.length + 1) (loL (z :: s)) = loL (z :: s) := List.take_of_length_le (by simp [loL])
          cases hct : co with
          | nil =>
            have e := e25w (.sl true 0 []) (.sl false 2 (stL a)) (.sl false 2 (stL b)) (.sl false 2 (stL c)) (.sl false 4 (loL ln)) hsm ⟨.inr ⟨by simp [hct],rfl⟩,.inl rfl,.inl rfl,.inl rfl,.inl rfl⟩
            rw [hln] at e
            simp only [st9c,lnV,lnB,coV,coB]
            refine ev_seq (ev_reg (by simp [e,ownF,htl]; rfl) ?_)
            refine ev_seq (ev_reg (by simp [e27,e18,htk]; rfl) ?_)
            refine ev_ret ?_
            simp
          | cons y r =>
            have e := e25w (.sl false 1 (ints co)) (.sl false 2 (stL a)) (.sl false 2 (stL b)) (.sl false 2 (stL c)) (.sl false 4 (loL ln)) hsm ⟨.inl rfl,.inl rfl,.inl rfl,.inl rfl,.inl rfl⟩
            rw [hln,hct] at e
            simp only [ints_cons] at e
            simp only [st9c,lnV,lnB,coV,coB]
            refine ev_seq (ev_reg (by simp [e,ownF,htl]; rfl) ?_)
            refine ev_seq (ev_reg (by simp [e27,e18,htk]; rfl) ?_)
            refine ev_ret ?_
            simp
  · have ha : sharesF v = [] := by unfold sharesF; rw [if_neg hk]
    rw [ha] at e25
    refine ev_seq (ev_reg (by simp [e25,ownF]; rfl) ?_)
    have hk2 : (checkF v != 0) = true := by simp [hk]
    refine ev_seq (ev_seq (ev_reg (by simp [hk2,hk,unsetS]; rfl) ?_))
    refine ev_cond rfl (fun hb => ?_) (fun hb => ?_)
    · refine ev_seq (ev_reg (by simp [hk2,hk,e18,unsetS]; rfl) ?_)
      refine ev_ret ?_
      simp
    · simp at hb
end Go.Proofs.YtejodhjhddnbeaaDoor.E
