/-
  The engine, part 3c: closed calls by evaluation. Conditions: none; it is stated of any program and table of its functions.
-/
import Derived.Test.YtoafhoihigfllaaGb
namespace Go.Proofs.Ytoafhoihigfllaa.E
open Go Go.RowKit
set_option linter.unusedVariables false

structure FnI where
  fn : Func
  live : Live
  plans : List (Nat × Plan)
  pure : Bool
  fz : Bool := false
def okEx : Ex → Bool
  | .normal => true
  | .ret => true
  | .exit _ => false
def sizeOk (f : FnI) (m : Nat) : Bool := Nat.ble m f.fn.ntmps && Nat.ble f.fn.ntmps 90000
/-- A function's body, run from a state. -/
def runF (G : Pg) (f : FnI) (σ : St) : Option (St × List V) :=
  match f.fn.body with
  | some c => match exec G f.live f.fn.ntmps (drawT f.plans G f.live f.fn.ntmps) R c σ with
    | some (e, σ1) => if okEx e = true then match slotsA G σ1 f.fn.results.toList with
        | some vs => some (σ1, vs)
        | none => none
      else none
    | none => none
  | none => none
def pureF (G : Pg) (f : FnI) (xs : List (Bool × FV)) : Option (List TV) :=
  if sizeOk f xs.length = true then match runF G f (initSt xs) with
    | some (σ1, vs) => retsA σ1 [] vs
    | none => none
  else none
def inlF (G : Pg) (f : FnI) (d : Nat) (σ : St) (args : List V) : Option (St × List V) :=
  if sizeOk f args.length = true then match runF G f (σ.enterI args) with
    | some (σ1, vs) => some (σ1.leaveI d, vs.map (mapV (onLive σ1 (fdn d (surv σ1.blk))) 6))
    | none => none
  else none
def Pg.withY (G : Pg) (y : Option (Option (List (List FV)) × Option Nat)) : Pg := { G with yl := y }
def itF (G : Pg) (f : FnI) (caps : List (Bool × FV)) (zs : List (List FV)) (st : Option Nat) : Bool :=
  if sizeOk f (caps.length + 1) = true then match runF (G.withY (some (some zs, st))) f (initStY caps) with
    | some (σ1, _) => Nat.beq σ1.tr.length zs.length
    | none => false
  else false
def seqF (G : Pg) (f : FnI) (caps : List (Bool × FV)) : Option (List (List FV)) :=
  match runF (G.withY (some (none, none))) f (initStY caps) with
  | some (σ1, _) => if itF G f caps σ1.tr none = true then some σ1.tr else none
  | none => none
abbrev FnTab := List (Nat × FnI)
def evG (base : Pg) (T : FnTab) : Nat → Pg
  | 0 => base
  | n + 1 =>
    { base with
      ctx := fun k xs => match lk k T with
        | some f => if f.pure = true then pureF (evG base T n) f xs else none
        | none => base.ctx k xs
      inl := fun k d σ args => match lk k T with
        | some f => if f.pure = true then none else inlF (evG base T n) f d σ args
        | none => base.inl k d σ args
      fz := fun k => match lk k T with
        | some f => f.fz
        | none => base.fz k
      itr := fun k caps => match lk k T with
        | some f => seqF (evG base T n) f caps
        | none => base.itr k caps
      its := fun k caps i => match lk k T with
        | some f => match seqF (evG base T n) f caps with
          | some xs => itF (evG base T n) f caps (xs.take (i + 1)) (some i)
          | none => false
        | none => base.its k caps i }
def fnChk (f : FnI) : Bool := f.fn.body.isSome && !(f.fn.name == "runtime.NumGoroutine")
def TabOk (P : Program) : FnTab → Prop
  | [] => True
  | (k, f) :: r => (P.funcs[k]? = some f.fn ∧ fnChk f = true) ∧ TabOk P r
theorem TabOk.get {P : Program} : ∀ {T : FnTab} {k : Nat} {f : FnI}, TabOk P T → lk k T = some f → P.funcs[k]? = some f.fn ∧ fnChk f = true
  | (j, g) :: r, k, f, h, hk => by
    simp only [lk] at hk
    split at hk
    · rename_i e; subst e
      simp only [Option.some.injEq] at hk; subst hk
      exact h.1
    · exact TabOk.get h.2 hk
theorem enters_tab {P : Program} {T : FnTab} {k : Nat} {f : FnI} (h : TabOk P T) (hk : lk k T = some f) : Enters P k := by
  obtain ⟨h1, h2⟩ := h.get hk
  simp only [fnChk, Bool.and_eq_true, Bool.not_eq_true', Option.isSome_iff_exists] at h2
  obtain ⟨⟨c, hc⟩, h3⟩ := h2
  exact ⟨f.fn, h1, by simp [hc], h3⟩
section
variable {G : Pg}
theorem tok_withY {y : Option (Option (List (List FV)) × Option Nat)} (hT : TOk G) : TOk (G.withY y) := ⟨hT.tt, hT.ee, hT.kk, hT.zv⟩
theorem ctx_withY {y : Option (Option (List (List FV)) × Option Nat)} (hC : CtxOk G) : CtxOk (G.withY y) := ⟨hC.c, hC.b, hC.s, hC.l, hC.i, hC.t⟩
theorem runF_get {f : FnI} {σ σ1 : St} {vs : List V} (h : runF G f σ = some (σ1, vs)) : ∃ c e, f.fn.body = some c ∧ exec G f.live f.fn.ntmps (drawT f.plans G f.live f.fn.ntmps) R c σ = some (e, σ1) ∧ (e = .normal ∨ e = .ret) ∧ slotsA G σ1 f.fn.results.toList = some vs := by
  unfold runF at h
  split at h
  · rename_i c hc
    split at h
    · rename_i e σ2 he
      split at h
      · rename_i hok
        split at h
        · rename_i vs' hvs
          simp only [Option.some.injEq, Prod.mk.injEq] at h
          obtain ⟨rfl, rfl⟩ := h
          refine ⟨c, e, hc, he, ?_, hvs⟩
          cases e with
          | normal => exact .inl rfl
          | ret => exact .inr rfl
          | exit id => simp [okEx] at hok
        · cases h
      · cases h
    · cases h
  · cases h
theorem sizeOk_get {f : FnI} {m : Nat} (h : sizeOk f m = true) : m ≤ f.fn.ntmps ∧ f.fn.ntmps ≤ 90000 := by
  simpa [sizeOk] using h
theorem pureF_sound (hT : TOk G) (hC : CtxOk G) (hyl : G.yl = none) (hmix : G.P.follows .mixedOrders = true) {k : FuncId} {f : FnI} (hf : G.P.funcs[k]? = some f.fn) {xs : List (Bool × FV)} {res : List TV} (h : pureF G f xs = some res) : Valid G.P k xs res := by
  unfold pureF at h
  split at h
  · rename_i hs
    split at h
    · rename_i σ1 vs hr
      obtain ⟨c, e, h1, h2, h3, h4⟩ := runF_get hr
      exact valid_of_exec hT hC hyl hf h1 (drawOk hT hC hmix _ _ _) R (sizeOk_get hs) h2 h3 h4 h
    · cases h
  · cases h
theorem inlF_sound (hT : TOk G) (hC : CtxOk G) (hyl : G.yl = none) (hmix : G.P.follows .mixedOrders = true) {k : FuncId} {f : FnI} (hf : G.P.funcs[k]? = some f.fn) {d : Nat} {σ σ' : St} {args vs : List V} (h : inlF G f d σ args = some (σ', vs)) : InlOK G.P k σ args σ' vs := by
  unfold inlF at h
  split at h
  · rename_i hs
    split at h
    · rename_i σ1 vs' hr
      simp only [Option.some.injEq, Prod.mk.injEq] at h
      obtain ⟨rfl, rfl⟩ := h
      obtain ⟨c, e, h1, h2, h3, h4⟩ := runF_get hr
      exact inl_of_exec hT hC hyl hf h1 (drawOk hT hC hmix _ _ _) R d (sizeOk_get hs) h2 h3 h4
    · cases h
  · cases h
theorem itF_sound (hT : TOk G) (hC : CtxOk G) (hmix : G.P.follows .mixedOrders = true) {k : FuncId} {f : FnI} (hf : G.P.funcs[k]? = some f.fn) {caps : List (Bool × FV)} {zs : List (List FV)} {st : Option Nat} (h : itF G f caps zs st = true) : ItOK G.P k caps zs st := by
  unfold itF at h
  split at h
  · rename_i hs
    split at h
    · rename_i σ1 vs' hr
      obtain ⟨c, e, h1, h2, h3, h4⟩ := runF_get hr
      exact it_of_exec (G := G.withY (some (some zs, st))) (tok_withY hT) (ctx_withY hC) rfl hf h1 (drawOk (G := G.withY (some (some zs, st))) (tok_withY hT) (ctx_withY hC) hmix _ _ _) R (sizeOk_get hs) h2 h3 (by simpa using h) h4
    · cases h
  · cases h
theorem seqF_sound (hT : TOk G) (hC : CtxOk G) (hmix : G.P.follows .mixedOrders = true) {k : FuncId} {f : FnI} (hf : G.P.funcs[k]? = some f.fn) {caps : List (Bool × FV)} {xs : List (List FV)} (h : seqF G f caps = some xs) : ItOK G.P k caps xs none := by
  unfold seqF at h
  split at h
  · split at h
    · rename_i hit
      simp only [Option.some.injEq] at h; subst h
      exact itF_sound hT hC hmix hf hit
    · cases h
  · cases h
theorem evG_P (base : Pg) (T : FnTab) : ∀ n, (evG base T n).P = base.P ∧ (evG base T n).tbl = base.tbl ∧ (evG base T n).eqs = base.eqs ∧ (evG base T n).yl = base.yl ∧ (evG base T n).keys = base.keys
  | 0 => ⟨rfl, rfl, rfl, rfl, rfl⟩
  | n + 1 => ⟨rfl, rfl, rfl, rfl, rfl⟩
theorem evG_T {base : Pg} {T : FnTab} (hT : TOk base) (n : Nat) : TOk (evG base T n) := by
  obtain ⟨h1, h2, h3, _, h5⟩ := evG_P base T n
  exact ⟨fun t ti h => h1 ▸ hT.tt t ti (h2 ▸ h), fun t m h => h1 ▸ hT.ee t m (h3 ▸ h), fun t m hk h => h1 ▸ hT.kk t m (h5 ▸ hk) (h3 ▸ h), fun t ti z h ha hz w => h1 ▸ hT.zv t ti z (h2 ▸ h) ha hz w⟩
/-- WHAT THE EVALUATION GIVES, HOLDS. -/
theorem evG_ok {base : Pg} {T : FnTab} (hT : TOk base) (hC : CtxOk base) (hyl : base.yl = none) (hmix : base.P.follows .mixedOrders = true) (hF : TabOk base.P T) : ∀ n, CtxOk (evG base T n)
  | 0 => hC
  | n + 1 => by
    have ih := evG_ok hT hC hyl hmix hF n
    obtain ⟨h1, h2, h3, h4, _⟩ := evG_P base T n
    have hTn := evG_T (T := T) hT n
    have hmn : (evG base T n).P.follows .mixedOrders = true := h1 ▸ hmix
    refine ⟨fun k xs res h => ?_, hC.b, hC.s, fun k d σ args σ' vs h => ?_, fun k caps xs h => ?_, fun k caps xs i h hs hi => ?_⟩
    · simp only [evG] at h
      split at h
      · rename_i f hf
        split at h
        · exact ⟨h1 ▸ pureF_sound hTn ih (h4.trans hyl) hmn (h1 ▸ (hF.get hf).1) h, enters_tab hF hf⟩
        · cases h
      · exact hC.c k xs res h
    · simp only [evG] at h
      split at h
      · rename_i f hf
        split at h
        · cases h
        · exact ⟨h1 ▸ inlF_sound hTn ih (h4.trans hyl) hmn (h1 ▸ (hF.get hf).1) h, enters_tab hF hf⟩
      · exact hC.l k d σ args σ' vs h
    · simp only [evG] at h
      split at h
      · rename_i f hf
        exact ⟨h1 ▸ seqF_sound hTn ih hmn (h1 ▸ (hF.get hf).1) h, enters_tab hF hf⟩
      · exact hC.i k caps xs h
    · simp only [evG] at h hs
      split at h
      · rename_i f hf
        simp only [hf] at hs
        rw [h] at hs
        exact h1 ▸ itF_sound hTn ih hmn (h1 ▸ (hF.get hf).1) hs
      · rename_i hf
        simp only [hf] at hs
        exact hC.t k caps xs i h hs hi
end
end Go.Proofs.Ytoafhoihigfllaa.E
