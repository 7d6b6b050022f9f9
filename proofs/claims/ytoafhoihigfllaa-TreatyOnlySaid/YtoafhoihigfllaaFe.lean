/-
  The engine, part 2e: the rules by which a body is run step by step. Conditions: none; it is stated of any program and table of its types.
-/
import Derived.Test.YtoafhoihigfllaaFd
namespace Go.Proofs.Ytoafhoihigfllaa.E
open Go Go.RowKit
set_option linter.unusedVariables false
set_option linter.unusedSimpArgs false

/-- What a run comes to. -/
def Ev (r : Option (Ex × St)) (Q : Ex → St → Prop) : Prop :=
  match r with
  | some (e, σ) => Q e σ
  | none => False
def EvO (r : Option St) (Q : St → Prop) : Prop :=
  match r with
  | some σ => Q σ
  | none => False
theorem Ev.get {r : Option (Ex × St)} {Q : Ex → St → Prop} (h : Ev r Q) : ∃ e σ, r = some (e, σ) ∧ Q e σ := by
  unfold Ev at h
  split at h
  · exact ⟨_, _, rfl, h⟩
  · exact h.elim
theorem EvO.get {r : Option St} {Q : St → Prop} (h : EvO r Q) : ∃ σ, r = some σ ∧ Q σ := by
  unfold EvO at h
  split at h
  · exact ⟨_, rfl, h⟩
  · exact h.elim
theorem ev_some {e : Ex} {σ : St} {Q : Ex → St → Prop} (h : Q e σ) : Ev (some (e, σ)) Q := h
theorem evo_some {σ : St} {Q : St → Prop} (h : Q σ) : EvO (some σ) Q := h
theorem Ev.mono {r : Option (Ex × St)} {Q Q' : Ex → St → Prop} (h : Ev r Q) (hq : ∀ e σ, Q e σ → Q' e σ) : Ev r Q' := by
  obtain ⟨e, σ, rfl, hQ⟩ := h.get
  exact hq e σ hQ
def finO (keep : List Nat × List Nat) : Option St → Option St
  | some σ => some (fin keep σ)
  | none => none
@[simp] theorem finO_some (keep : List Nat × List Nat) (σ : St) : finO keep (some σ) = some (fin keep σ) := rfl
theorem finO_eq {keep : List Nat × List Nat} {r : Option St} {σ' : St} (h : finO keep r = some σ') : ∃ τ, r = some τ ∧ fin keep τ = σ' := by
  cases r with
  | none => simp [finO] at h
  | some τ => exact ⟨τ, rfl, by simpa [finO] using h⟩
/-- Behind the first of two: on with the second, or out. -/
def Then (k : St → Prop) (Q : Ex → St → Prop) : Ex → St → Prop
  | .normal, σ => k σ
  | e, σ => Q e σ
def InBlock (id : Nat) (Q : Ex → St → Prop) : Ex → St → Prop
  | .normal, σ => Q .normal σ
  | .exit j, σ => if j = id then Q .normal σ else Q (.exit j) σ
  | .ret, σ => Q .ret σ
@[simp] theorem then_normal {k : St → Prop} {Q : Ex → St → Prop} {σ : St} : Then k Q .normal σ = k σ := rfl
@[simp] theorem then_exit {k : St → Prop} {Q : Ex → St → Prop} {σ : St} {i : Nat} : Then k Q (.exit i) σ = Q (.exit i) σ := rfl
@[simp] theorem then_ret {k : St → Prop} {Q : Ex → St → Prop} {σ : St} : Then k Q .ret σ = Q .ret σ := rfl
@[simp] theorem inBlock_normal {Q : Ex → St → Prop} {σ : St} {i : Nat} : InBlock i Q .normal σ = Q .normal σ := rfl
@[simp] theorem inBlock_ret {Q : Ex → St → Prop} {σ : St} {i : Nat} : InBlock i Q .ret σ = Q .ret σ := rfl
@[simp] theorem inBlock_exit {Q : Ex → St → Prop} {σ : St} {i j : Nat} : InBlock i Q (.exit j) σ = if j = i then Q .normal σ else Q (.exit j) σ := rfl

section
variable {G : Pg} {L : Live} {N n id : Nat} {D : Drawer} {x y c : Code} {σ σ1 σ2 σ' : St} {Q : Ex → St → Prop} {ops : Array Oper}
theorem ev_seq (h : Ev (exec G L N D n x σ) (Then (fun σ => Ev (exec G L N D n y σ) Q) Q)) : Ev (exec G L N D n (.seq x y) σ) Q := by
  obtain ⟨e, τ, h1, h2⟩ := h.get
  cases e with
  | normal => simp only [exec, h1]; exact h2
  | exit id => simp only [exec, h1]; exact h2
  | ret => simp only [exec, h1]; exact h2
theorem ev_reg (h1 : finO (kof L id) (runOps G (kof L id).1 N ops.toList ops.toList σ) = some σ') (h2 : Q .normal σ') : Ev (exec G L N D n (.region id ops false) σ) Q := by
  obtain ⟨τ, h1', rfl⟩ := finO_eq h1
  simp only [exec, h1', Bool.false_eq_true, if_false]
  exact h2
theorem ev_drw {T : List (Nat × Plan)} {pl : Plan} (h2 : lk id T = some pl)
    (h3 : planOk ops.toList pl = true) (h4 : ((dsts ops.toList pl.length).all fun d => decide (d < N)) = true) (h5 : finO (kof L id) (drawP G (kof L id).1 N ops.toList pl σ) = some σ') (h6 : Q .normal σ') :
    Ev (exec G L N (drawT T G L N) n (.region id ops true) σ) Q := by
  obtain ⟨τ, h5', rfl⟩ := finO_eq h5
  rw [ex_draw h2 h3 h4 h5']
  exact h6
theorem ev_cond {ro b : Bool} {t : Operand} (h : opd σ t = some (.fv ro (.bool b))) (h1 : b = true → Ev (exec G L N D n x σ) Q) (h2 : b = false → Ev (exec G L N D n y σ) Q) : Ev (exec G L N D n (.cond t x y) σ) Q := by
  cases b with
  | true => simp only [exec, h, if_true]; exact h1 rfl
  | false => simp only [exec, h, Bool.false_eq_true, if_false]; exact h2 rfl
theorem ev_skip (h : Q .normal σ) : Ev (exec G L N D n .skip σ) Q := h
theorem ev_exit (h : Q (.exit id) σ) : Ev (exec G L N D n (.exit id) σ) Q := h
theorem ev_scope (h : Ev (exec G L N D n c σ) Q) : Ev (exec G L N D n (.scope c) σ) Q := h
theorem ev_label {l : Nat} (h : Q .normal σ) : Ev (exec G L N D n (.label l) σ) Q := h
theorem ev_ret (h : Q .ret σ) : Ev (exec G L N D n .ret σ) Q := h
theorem ev_block (h : Ev (exec G L N D n c σ) (InBlock id Q)) : Ev (exec G L N D n (.block id c) σ) Q := by
  obtain ⟨e, τ, h1, h2⟩ := h.get
  cases e with
  | normal => simp only [exec, h1]; exact h2
  | exit j =>
    simp only [exec, h1]
    simp only [inBlock_exit] at h2
    split
    · rename_i e; rw [if_pos e] at h2; exact h2
    · rename_i e; rw [if_neg e] at h2; exact h2
  | ret => simp only [exec, h1]; exact h2
/-- A loop, by what holds ahead of each round, and a number that falls. -/
theorem ev_loop {α : Type} (S : α → St) (r : α → Nat) (I : α → Prop) (x0 : α) (h0 : σ = S x0) (hI : I x0) (hn : r x0 < n)
    (h : ∀ x, I x → Ev (exec G L N D n c (S x)) (Then (fun σ' => ∃ y, σ' = S y ∧ I y ∧ r y < r x) Q)) : Ev (exec G L N D n (.loop c) σ) Q := by
  subst h0
  simp only [exec]
  have key : ∀ m x, I x → r x < m → Ev (iter (exec G L N D n c) m (S x)) Q := by
    intro m
    induction m with
    | zero => intro x _ hm; omega
    | succ m ih =>
      intro x hx hm
      obtain ⟨e, τ, h1, h2⟩ := (h x hx).get
      simp only [iter, h1]
      cases e with
      | normal =>
        obtain ⟨y, rfl, hy, hlt⟩ := h2
        exact ih y hy (by omega)
      | exit id => exact h2
      | ret => exact h2
  exact key n x0 hI hn
end

/-- The rounds that a loop may take. -/
def R : Nat := 2 ^ 64
/-- A FUNCTION's LAW: its body's run comes to the results. -/
theorem valid_of_ev {G : Pg} (hT : TOk G) (hC : CtxOk G) (hmix : G.P.follows .mixedOrders = true) {k : FuncId} {fn : Func} (hf : G.P.funcs[k]? = some fn) (T : List (Nat × Plan)) (L : Live)
    {args : List (Bool × FV)} {res : List TV} (hargs : args.length ≤ fn.ntmps ∧ fn.ntmps ≤ 90000)
    (h : ∃ c, fn.body = some c ∧ Ev (exec G L fn.ntmps (drawT T G L fn.ntmps) R c (initSt args)) (fun e σ => (e = .normal ∨ e = .ret) ∧ ∃ vs, slotsA G σ fn.results.toList = some vs ∧ retsA σ [] vs = some res)) (hyl : G.yl = none := by rfl) : Valid G.P k args res := by
  obtain ⟨c, hb, hx⟩ := h
  obtain ⟨e, σ, h1, h2, vs, h3, h4⟩ := hx.get
  exact valid_of_exec hT hC hyl hf hb (D := drawT T G L fn.ntmps) (drawOk hT hC hmix T L fn.ntmps) R hargs h1 h2 h3 h4

/-- The law of a function to which a box is handed over. -/
theorem validB_of_ev {G : Pg} (hT : TOk G) (hC : CtxOk G) (hmix : G.P.follows .mixedOrders = true) {k : FuncId} {fn : Func} (hf : G.P.funcs[k]? = some fn) (T : List (Nat × Plan)) (L : Live)
    {cells args : List (Bool × FV)} {res : List TV} (hargs : args.length + 1 ≤ fn.ntmps ∧ fn.ntmps ≤ 90000)
    (h : ∃ c, fn.body = some c ∧ Ev (exec G L fn.ntmps (drawT T G L fn.ntmps) R c (initStB cells args)) (fun e σ => (e = .normal ∨ e = .ret) ∧ ∃ vs, slotsA G σ fn.results.toList = some vs ∧ retsA σ [] vs = some res)) (hyl : G.yl = none := by rfl) : ValidB G.P k cells args res := by
  obtain ⟨c, hb, hx⟩ := h
  obtain ⟨e, σ, h1, h2, vs, h3, h4⟩ := hx.get
  exact validB_of_exec hT hC hyl hf hb (D := drawT T G L fn.ntmps) (drawOk hT hC hmix T L fn.ntmps) R hargs h1 h2 h3 h4
/-- The law of an iterator: of what comes, behind so many rounds. -/
theorem it_of_ev {G : Pg} (hT : TOk G) (hC : CtxOk G) (hmix : G.P.follows .mixedOrders = true) {zs : List (List FV)} {st : Option Nat} (hyl : G.yl = some (some zs, st)) {k : FuncId} {fn : Func} (hf : G.P.funcs[k]? = some fn) (T : List (Nat × Plan)) (L : Live)
    {caps : List (Bool × FV)} (hargs : caps.length + 1 ≤ fn.ntmps ∧ fn.ntmps ≤ 90000)
    (h : ∃ c, fn.body = some c ∧ Ev (exec G L fn.ntmps (drawT T G L fn.ntmps) R c (initStY caps)) (fun e σ => (e = .normal ∨ e = .ret) ∧ σ.tr.length = zs.length ∧ ∃ vs, slotsA G σ fn.results.toList = some vs)) : ItOK G.P k caps zs st := by
  obtain ⟨c, hb, hx⟩ := h
  obtain ⟨e, σ, h1, h2, h3, vs, h4⟩ := hx.get
  exact it_of_exec hT hC hyl hf hb (D := drawT T G L fn.ntmps) (drawOk hT hC hmix T L fn.ntmps) R hargs h1 h2 h3 h4
attribute [irreducible] Ev
attribute [simp] mkMapA lookMap updMap kmatch findF keyOK bs0A runOps guardA stepX frzA callF ownF yldA inlA ans feq feqs feqs.feqs' keepN ownR upEnv dnEnv loEnv St.enter St.leave bindP stepA popA opd constV lk put rm asgA lenA indexA fieldA intN loadA look padd pres opds parts fbin fint fcmp unA nonnil nrm fin kpIf mentE inB memN popt subsl capOf clipOf TK.agg
attribute [simp] St.mk' St.drop St.kill St.ren renB killB allocA boxA vcells frees bsA mkA elemOf appA dstA dropO srcA listOf stoA vone setEl buildA placesA fillV splice partA aggCells mkAgg allF mkFn zgood cellsOK nagg self cellsOf flat flat1 slotsA retsA retA frz frzL callX callI callA callB srtA fnOf argsA addRes nm packV opds elemA elemsA addA addAsg addApp addBs0 addCall addRs addBs addMk drawP drawA prep pk rmL mentAny blkMent addO dsts dstsP over1 makers maker unsetS skipS
@[simp] theorem ment_top (n s : Nat) : ment (n + 1) s .top = false := rfl
@[simp] theorem ment_fv (n s : Nat) (ro : Bool) (x : FV) : ment (n + 1) s (.fv ro x) = false := rfl
@[simp] theorem ment_own (n s t o l : Nat) : ment (n + 1) s (.own t o l) = (t == s) := rfl
@[simp] theorem ment_ptr (n s t o : Nat) : ment (n + 1) s (.ptr t o) = (t == s) := rfl
@[simp] theorem ment_pel (n s t i j : Nat) : ment (n + 1) s (.pel t i j) = (t == s) := rfl
@[simp] theorem ment_map (n s t : Nat) : ment (n + 1) s (.map t) = (t == s) := rfl
@[simp] theorem ment_agg (n s : Nat) (cs : List V) : ment (n + 1) s (.agg cs) = cs.any (ment n s) := rfl
@[simp] theorem ment_tup (n s : Nat) (cs : List V) : ment (n + 1) s (.tup cs) = cs.any (ment n s) := rfl
@[simp] theorem ment_fn (n s : Nat) (f : Fn) (a b : List V) : ment (n + 1) s (.fn f a b) = (a.any (ment n s) || b.any (ment n s)) := rfl
@[simp] theorem killV_nil (v : V) : killV [] v = v := rfl
@[simp] theorem killV_top (ns : List Nat) : killV ns .top = .top := by unfold killV; split <;> rfl
@[simp] theorem killV_fv (ns : List Nat) (ro : Bool) (x : FV) : killV ns (.fv ro x) = .fv ro x := by simp [killV]
@[simp] theorem killV_own (ns : List Nat) (t o l : Nat) : killV ns (.own t o l) = if ns.any (t == ·) = true then .top else .own t o l := by simp [killV]
@[simp] theorem killV_ptr (ns : List Nat) (t o : Nat) : killV ns (.ptr t o) = if ns.any (t == ·) = true then .top else .ptr t o := by simp [killV]
@[simp] theorem killV_pel (ns : List Nat) (t i j : Nat) : killV ns (.pel t i j) = if ns.any (t == ·) = true then .top else .pel t i j := by simp [killV]
@[simp] theorem killV_map (ns : List Nat) (t : Nat) : killV ns (.map t) = if ns.any (t == ·) = true then .top else .map t := by simp [killV]
@[simp] theorem killV_agg (ns : List Nat) (cs : List V) : killV ns (.agg cs) = if ns.any (fun s => cs.any (ment 4 s)) = true then .top else .agg cs := by simp [killV]
@[simp] theorem killV_tup (ns : List Nat) (cs : List V) : killV ns (.tup cs) = if ns.any (fun s => cs.any (ment 4 s)) = true then .top else .tup cs := by simp [killV]
@[simp] theorem killV_fn (ns : List Nat) (f : Fn) (a b : List V) : killV ns (.fn f a b) = if ns.any (fun s => a.any (ment 4 s) || b.any (ment 4 s)) = true then .top else .fn f a b := by simp [killV]
@[simp] theorem renV_top (s k n : Nat) : renV s k (n + 1) .top = .top := rfl
@[simp] theorem renV_fv (s k n : Nat) (ro : Bool) (x : FV) : renV s k (n + 1) (.fv ro x) = .fv ro x := rfl
@[simp] theorem renV_own (s k n t o l : Nat) : renV s k (n + 1) (.own t o l) = .own (if t = s then k else t) o l := rfl
@[simp] theorem renV_ptr (s k n t o : Nat) : renV s k (n + 1) (.ptr t o) = .ptr (if t = s then k else t) o := rfl
@[simp] theorem renV_pel (s k n t i j : Nat) : renV s k (n + 1) (.pel t i j) = .pel (if t = s then k else t) i j := rfl
@[simp] theorem renV_map (s k n t : Nat) : renV s k (n + 1) (.map t) = .map (if t = s then k else t) := rfl
@[simp] theorem renV_agg (s k n : Nat) (cs : List V) : renV s k (n + 1) (.agg cs) = .agg (cs.map (renV s k n)) := rfl
@[simp] theorem renV_tup (s k n : Nat) (cs : List V) : renV s k (n + 1) (.tup cs) = .tup (cs.map (renV s k n)) := rfl
@[simp] theorem renV_fn (s k n : Nat) (f : Fn) (a b : List V) : renV s k (n + 1) (.fn f a b) = .fn f (a.map (renV s k n)) (b.map (renV s k n)) := rfl
@[simp] theorem ints_getElem (l : List Int) (i : Nat) (h : i < (ints l).length) : (ints l)[i] = .int .i64 (l[i]'(by simpa using h)) := by simp [ints]
@[simp] theorem argsA_fv (σ : St) (ro : Bool) : ∀ caps : List FV, argsA σ (caps.map (.fv ro)) = some (caps.map fun y => (ro, y))
  | [] => rfl
  | x :: r => by simp [argsA_fv σ ro r]
end Go.Proofs.Ytoafhoihigfllaa.E
