/-
  The chapter of the treaty: what is said of single claims, wishes and trades, by evaluation. Conditions: none.
-/
import Derived.Test.YtidiigajhbegeaaTp
namespace Go.Proofs.Ytidiigajhbegeaa.E
open Go Go.RowKit
set_option linter.unusedVariables false
def argsEq (a b : List (Bool × FV)) : Bool := all2 (fun x y => boolEq x.1 y.1 && fveq 12 x.2 y.2) a b
theorem argsEq_eq {a b : List (Bool × FV)} (h : argsEq a b = true) : a = b := all2_eq (fun x y hxy => by
  simp only [Bool.and_eq_true, boolEq, beq_iff_eq] at hxy
  exact Prod.ext hxy.1 (fveq_eq 12 hxy.2)) h
def factAt : List Fact → FuncId → List (Bool × FV) → Option (List TV)
  | [], _, _ => none
  | (k, xs, res) :: r, j, ys => if (Nat.beq k j && argsEq xs ys) = true then some res else factAt r j ys
def Facts : List Fact → Prop
  | [] => True
  | f :: r => FactOk f ∧ Facts r
theorem factAt_ok : ∀ {fs : List Fact} {k : FuncId} {xs : List (Bool × FV)} {res : List TV}, Facts fs → factAt fs k xs = some res → FactOk (k, xs, res)
  | [], _, _, _, _, h => by cases h
  | (k, xs, res) :: r, j, ys, z, hf, h => by
    simp only [factAt] at h
    split at h
    · rename_i hc
      simp only [Bool.and_eq_true] at hc
      simp only [Option.some.injEq] at h
      have e1 := Nat.eq_of_beq_eq_true hc.1
      have e2 := argsEq_eq hc.2
      subst e1; subst e2; subst h
      exact hf.1
    · exact factAt_ok hf.2 h
def facts : List Fact := [(17, [], [.fv (.bool true)]), (12, aSt [0, -1, 1], no0), (12, aSt [1, 1, 0], no0), (12, aSt [1, 0, 0], no0), (12, aSt [-1, 0, 1], no0), (12, aSt [-1, -1, -1], no0), (9, aBe [2, 0, 1, 3] 15, no0), (9, aBe [2, 1, 0, 3] 1, no0), (9, aBe [3, 2, 1, 0] 0, no0), (9, aBe [2, 0, 1] 0, no3), (9, aBe [2, 0, 1, 1] 0, no3), (9, aBe [2, 0, 1, 3] 16, no3), (9, aBe [2, 0, 1, 3] (-1), no3), (12, aSo [1, 0], no3), (12, aSo [1, 0, -2], no3), (12, aSo [1, 0, 2], no3), (13, [(false, tradeF 2)], [.us 1 (ints [1, 0, 0]), .fv (.int .i64 0)])]
theorem facts_ok : Facts facts := ⟨wo1, st1, st2, st3, st4, st5, be1, be2, be3, be4, be5, be6, be7, st6, st7, st8, de1, trivial⟩
noncomputable def gK : Pg := { evG base0 TT 11 with ctx := fun k xs => match factAt facts k xs with
  | some res => some res
  | none => (evG base0 TT 11).ctx k xs }
theorem gK_ctx : CtxOk gK := by
  have hC := ev_ok 11
  have e := (evG_P base0 TT 11).1
  refine ⟨fun k xs res h => ?_, hC.b, hC.s, hC.l, hC.i, hC.t, hC.h⟩
  have h' : (match factAt facts k xs with
    | some res => some res
    | none => (evG base0 TT 11).ctx k xs) = some res := h
  split at h'
  · rename_i r hr
    simp only [Option.some.injEq] at h'; subst h'
    have hf := factAt_ok facts_ok hr
    have e' : gK.P = Try.prog := e
    exact ⟨e' ▸ hf.1, e' ▸ hf.2⟩
  · exact hC.c k xs res h'
noncomputable def FI3 : FnI := ⟨Try.f3, L3, T3, true, false, [144, 145, 146, 147, 148, 149]⟩
theorem known_eval : pureF gK FI3 [] = some [.fv (.bool true)] := by kernel_rfl
theorem known_valid : Valid Try.prog 3 [] [.fv (.bool true)] := by
  have e : gK.P = Try.prog := (evG_P base0 TT 11).1
  have hT : TOk gK := by
    have := evG_T (T := TT) tok0 11
    exact ⟨this.tt, this.ee, this.kk, this.zv⟩
  have hyl : gK.yl = none := (evG_P base0 TT 11).2.2.2.1
  have := pureF_sound (G := gK) (k := 3) (f := FI3) hT gK_ctx hyl (e ▸ mixed) (e ▸ Try.func3) known_eval
  exact e ▸ this
end Go.Proofs.Ytidiigajhbegeaa.E
