/-
  The chapter of the treaty: TreatyCore: THE THEOREM OF THE GROUNDS, for any wishes; a number chooses the set. Conditions: none.
-/
import Derived.Test.YtoafhoihigfllaaRows
import Derived.Test.YtoafhoihigfllaaCc
import Derived.Test.YtoafhoihigfllaaSw
import Derived.JoinedCond
import Derived.JoinedOf
namespace Go.Proofs.Ytoafhoihigfllaa.E
open Go Go.RowKit
set_option linter.unusedVariables false
namespace Core
open Args
theorem core_args {xs : List FV} (h : ArgsT Try.prog 4 [32, 3] xs) : Valid Try.prog 8 (xs.map fun x => (false, x)) [.fv (.bool true)] := by
  obtain ⟨fs, ys, h0, h1, h2⟩ := h
  obtain ⟨us, h6, h7⟩ := ArgsT_one h2
  obtain ⟨w, hf, hr⟩ := rows47 h1
  obtain ⟨n, hu⟩ := IsT_int Try.underlying3 h7
  rw [h0, h6, hf, hu, argFV_one struct32, argFV_one struct3]
  exact law8 w false hr n false false
set_option maxRecDepth 100000 in
theorem core_lifted (os : Os) (started : os.Started) (H : Type) (enc : TypeId × Value → H) :
    ReturnsInHanded {} Try.checked os 8 .any (Rows.treatyCoreSpec.pre6 enc Try.prog Try.f8 Rows.treatyCoreRow.domain false) (Rows.treatyCoreSpec.post enc Try.prog Try.f8 false true false false) := by
  refine returnsInHanded_of_change_sized (C := Try.checked) own started (by kernel_rfl) Try.func8
    (ChangeSpec.witness6 (enc := enc) (C := Try.checked) false ⟨#[], #[.slice none 0 0, .int .i64 0], []⟩ 8 (by kernel_rfl) (by kernel_rfl) (by kernel_rfl) (by kernel_rfl)) ?_
  intro W base args ds gs before hval hW _ hwt _
  refine law_contract (P := Try.prog) (f := Try.f8) (s := Rows.treatyCoreSpec) (n := 4) (tb := 4) (by kernel_rfl) ?_ ?_ rfl (by kernel_rfl) Try.underlying4 ?_ ?_ hval hW hwt
  · rw [Try.params8]; intro t ht; simp at ht; rcases ht with rfl | rfl <;> exact ⟨by kernel_rfl, of_decide_eq_true (by kernel_rfl)⟩
  · rw [Try.params8]; intro t ht; simp at ht; rcases ht with rfl | rfl <;> kernel_rfl
  · rw [Try.params8]
    intro ds hd
    match ds, hd with
    | [d, d2], _ => rfl
  · rw [Try.params8]
    exact fun xs h => core_args h
theorem core_holds : Rows.TreatyCoreSaid :=
  OpenClaim.holds_of_wide 8 Try.f8 rfl rfl rfl rfl rfl rfl rfl ⟨rfl, rfl, rfl, rfl, rfl⟩ rfl rfl rfl rfl rfl (by kernel_rfl) Try.func8 (by kernel_rfl)
    (of_decide_eq_true (by kernel_rfl)) (by unfold Func.isWrapper; first | (rw [if_pos (by decide +kernel)]; kernel_rfl) | (rw [if_neg (by decide +kernel)]; exact ⟨rfl, rfl⟩))
    (fun os started H enc _ => core_lifted os started H enc)
#print axioms core_holds
end Core
end Go.Proofs.Ytoafhoihigfllaa.E
