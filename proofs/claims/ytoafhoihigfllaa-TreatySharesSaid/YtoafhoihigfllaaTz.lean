/-
  The chapter of the treaty: TreatyShares: CheckClaims and Shares return what the chapter says, for any claims. Conditions: none.
-/
import Derived.Test.YtoafhoihigfllaaRows
import Derived.Test.YtoafhoihigfllaaTj
import Derived.JoinedCond
import Derived.JoinedOf
namespace Go.Proofs.Ytoafhoihigfllaa.E
open Go Go.RowKit
set_option linter.unusedVariables false
theorem cells3 : Try.prog.cellsOf 3 = 1 := by kernel_rfl
theorem bytes3 : Try.prog.bytesOf 3 = 8 := by kernel_rfl
theorem args24 {fs : List FV} (h : IsT Try.prog 4 24 fs) : ∃ q l, fs = [.int .i64 q, .sl false 1 (ints l)] ∧ l.length < 2^62 := by
  obtain ⟨g0, g1, rfl, h0, h1⟩ := IsT_pair Try.underlying24 h
  obtain ⟨q, rfl⟩ := IsT_int Try.underlying3 h0
  obtain ⟨l, rfl, hl⟩ := IsT_ints Try.underlying22 Try.underlying3 cells3 bytes3 h1
  exact ⟨q, l, rfl, hl⟩
theorem struct24 : isStruct Try.prog 24 = true := by kernel_rfl
theorem own : ownKnob Try.prog.godebug = none := by kernel_rfl
theorem shares_args {xs : List FV} (h : ArgsT Try.prog 4 [24] xs) : Valid Try.prog 3 (xs.map fun x => (false, x)) [.fv (.bool true)] := by
  obtain ⟨fs, hx, h1⟩ := ArgsT_one h
  obtain ⟨q, l, hf, hl⟩ := args24 h1
  rw [hx, argFV_struct struct24, hf]
  exact law3 q l hl false false
set_option maxRecDepth 100000 in
theorem shares_lifted (os : Os) (started : os.Started) (H : Type) (enc : TypeId × Value → H) :
    ReturnsInHanded {} Try.checked os 3 .any (Rows.treatySharesSpec.pre6 enc Try.prog Try.f3 Rows.treatySharesRow.domain false) (Rows.treatySharesSpec.post enc Try.prog Try.f3 false true false false) := by
  refine returnsInHanded_of_change_sized (C := Try.checked) own started (by kernel_rfl) Try.func3
    (ChangeSpec.witness6 (enc := enc) (C := Try.checked) false ⟨#[], #[.agg #[.int .i64 0, .slice none 0 0]], []⟩ 8 (by kernel_rfl) (by kernel_rfl) (by kernel_rfl) (by kernel_rfl)) ?_
  intro W base args ds gs before hval hW _ hwt _
  refine law_contract (P := Try.prog) (f := Try.f3) (s := Rows.treatySharesSpec) (n := 4) (tb := 4) (by kernel_rfl) ?_ ?_ rfl (by kernel_rfl) Try.underlying4 ?_ ?_ hval hW hwt
  · rw [Try.params3]; intro t ht; simp at ht; subst ht; exact ⟨by kernel_rfl, of_decide_eq_true (by kernel_rfl)⟩
  · rw [Try.params3]; intro t ht; simp at ht; subst ht; kernel_rfl
  · rw [Try.params3]
    intro ds hd
    match ds, hd with
    | [d], _ => rfl
  · rw [Try.params3]
    exact fun xs h => shares_args h
theorem shares_holds : Rows.TreatySharesSaid :=
  OpenClaim.holds_of_wide 3 Try.f3 rfl rfl rfl rfl rfl rfl rfl ⟨rfl, rfl, rfl, rfl, rfl⟩ rfl rfl rfl rfl rfl (by kernel_rfl) Try.func3 (by kernel_rfl)
    (of_decide_eq_true (by kernel_rfl)) (by unfold Func.isWrapper; first | (rw [if_pos (by decide +kernel)]; kernel_rfl) | (rw [if_neg (by decide +kernel)]; exact ⟨rfl, rfl⟩))
    (fun os started H enc _ => shares_lifted os started H enc)
#print axioms shares_holds
end Go.Proofs.Ytoafhoihigfllaa.E
