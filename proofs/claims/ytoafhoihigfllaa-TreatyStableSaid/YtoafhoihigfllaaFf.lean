/-
  The engine, part 2f: the rule of a range over a function. Conditions: none; it is stated of any program and table of its types.
-/
import Derived.Test.YtoafhoihigfllaaFe
namespace Go.Proofs.Ytoafhoihigfllaa.E
open Go Go.RowKit
set_option linter.unusedVariables false
section
variable {G : Pg} {L : Live} {N n : Nat} {D : Drawer} {σ : St} {Q : Ex → St → Prop}
/-- Behind a round's body. -/
def RoundQ (ok : Prop) (J : St → Prop) (Q : Ex → St → Prop) : Ex → St → Prop
  | .normal, σ => J σ.leave
  | e, σ => ok ∧ Q e σ.leave
@[simp] theorem roundQ_normal {ok : Prop} {J : St → Prop} {Q : Ex → St → Prop} {σ : St} : RoundQ ok J Q .normal σ = J σ.leave := rfl
@[simp] theorem roundQ_ret {ok : Prop} {J : St → Prop} {Q : Ex → St → Prop} {σ : St} : RoundQ ok J Q .ret σ = (ok ∧ Q .ret σ.leave) := rfl
@[simp] theorem roundQ_exit {ok : Prop} {J : St → Prop} {Q : Ex → St → Prop} {σ : St} {i : Nat} : RoundQ ok J Q (.exit i) σ = (ok ∧ Q (.exit i) σ.leave) := rfl
theorem ev_range {g : Operand} {ps : Array Tmp} {assign body : Code} {f : V} {ns : List Nat} {ro : Bool} {k : FuncId} {caps : List FV} {xs : List (List FV)} (hf : opd σ g = some f) (hz : frz σ 6 f = some (ns, ro, .fn (.func k) [] caps)) (hi : G.itr k (caps.map fun c => (ro, c)) = some xs)
    {α : Type} (S : α → St) (I : Nat → α → Prop) (x0 : α) (h0 : frees σ ns = S x0) (hI : I 0 x0)
    (h : ∀ (i : Nat) (hi : i < xs.length) (x : α), I i x → ∃ env, bindP N ps.toList xs[i] (S x).enter.env = some env ∧ Ev (exec G L N D n assign { (S x).enter with env := env }) (fun e τ => e = .normal ∧ Ev (exec G L N D n body τ) (RoundQ (G.its k (caps.map fun c => (ro, c)) i = true) (fun τ => ∃ y, τ = S y ∧ I (i + 1) y) Q)))
    (hend : ∀ x, I xs.length x → Q .normal (S x)) : Ev (exec G L N D n (.rangeFunc g ps assign body) σ) Q := by
  simp only [exec, hf, hz, hi]
  generalize hF : (fun τ => match exec G L N D n assign τ with
            | some (.normal, τ') => exec G L N D n body τ'
            | _ => none) = F
  have key : ∀ m i x, i + m = xs.length → I i x → ∃ st e σ', rounds F N ps.toList i (xs.drop i) (S x) = some (st, e, σ') ∧ (st = none → Q .normal σ') ∧ (∀ j, st = some j → G.its k (caps.map fun c => (ro, c)) j = true ∧ Q e σ') := by
    intro m
    induction m with
    | zero =>
      intro i x hm hx
      have hi : i = xs.length := by omega
      rw [List.drop_eq_nil_of_le (by omega)]
      exact ⟨none, .normal, S x, rfl, fun _ => hend x (hi ▸ hx), fun j hj => by cases hj⟩
    | succ m ih =>
      intro i x hm hx
      have hlt : i < xs.length := by omega
      rw [List.drop_eq_getElem_cons hlt]
      obtain ⟨env, hb, hev⟩ := h i hlt x hx
      obtain ⟨e, τ, h1, h2, h3⟩ := hev.get
      subst h2
      obtain ⟨e, τ', h4, h5⟩ := h3.get
      have hFx : F { (S x).enter with env := env } = some (e, τ') := by
        rw [← hF]
        simp only [h1, h4]
      simp only [rounds, hb, hFx]
      cases e with
      | normal =>
        obtain ⟨y, hy, hIy⟩ := h5
        dsimp only
        rw [hy]
        exact ih (i + 1) y (by omega) hIy
      | exit j => exact ⟨some i, .exit j, _, rfl, fun e => by simp at e, fun j hj => by cases hj; exact h5⟩
      | ret => exact ⟨some i, .ret, _, rfl, fun e => by simp at e, fun j hj => by cases hj; exact h5⟩
  obtain ⟨st, e, σ', h1, h2, h3⟩ := key xs.length 0 x0 (by omega) hI
  rw [List.drop_zero, ← h0] at h1
  simp only [h1]
  cases st with
  | none => exact ev_some (h2 rfl)
  | some j =>
    obtain ⟨h4, h5⟩ := h3 j rfl
    simp only [h4, if_true]
    exact ev_some h5
end
end Go.Proofs.Ytoafhoihigfllaa.E
