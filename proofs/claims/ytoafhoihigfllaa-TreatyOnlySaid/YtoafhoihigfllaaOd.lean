/-
  The chapter of the treaty: TreatyOnly: than by any other exchange than that by the rings some set does better, for any wishes; numbers choose the other exchange. Conditions: none.
-/
import Derived.Test.YtoafhoihigfllaaRows
import Derived.Test.YtoafhoihigfllaaCz
import Derived.Test.YtoafhoihigfllaaSw
import Derived.JoinedCond
import Derived.JoinedOf
namespace Go.Proofs.Ytoafhoihigfllaa.E
open Go Go.RowKit
set_option linter.unusedVariables false
namespace Only
open Args
theorem only_args {xs : List FV} (h : ArgsT Try.prog 4 [32, 22] xs) : Valid Try.prog 9 (xs.map fun x => (false, x)) [.fv (.bool true)] := by
  obtain ⟨fs, ys, h0, h1, h2⟩ := h
  obtain ⟨us, h6, h7⟩ := ArgsT_one h2
  obtain ⟨w, hf, hr⟩ := rows47 h1
  obtain ⟨x, hu, hx⟩ := ints47 h7
  rw [h0, h6, hf, hu, argFV_one struct32, argFV_one struct22]
  exact law9 w false hr x false false false
set_option maxRecDepth 100000 in
theorem only_lifted (os : Os) (started : os.Started) (H : Type) (enc : TypeId × Value → H) :
    ReturnsInHanded {} Try.checked os 9 .any (Rows.treatyOnlySpec.pre6 enc Try.prog Try.f9 Rows.treatyOnlyRow.domain false) (Rows.treatyOnlySpec.post enc Try.prog Try.f9 false true false false) := by
  refine returnsInHanded_of_change_sized (C := Try.checked) own started (by kernel_rfl) Try.func9
    (ChangeSpec.witness6 (enc := enc) (C := Try.checked) false ⟨#[], #[.slice none 0 0, .slice none 0 0], []⟩ 8 (by kernel_rfl) (by kernel_rfl) (by kernel_rfl) (by kernel_rfl)) ?_
  intro W base args ds gs before hval hW _ hwt _
  refine law_contract (P := Try.prog) (f := Try.f9) (s := Rows.treatyOnlySpec) (n := 4) (tb := 4) (by kernel_rfl) ?_ ?_ rfl (by kernel_rfl) Try.underlying4 ?_ ?_ hval hW hwt
  · rw [Try.params9]; intro t ht; simp at ht; rcases ht with rfl | rfl <;> exact ⟨by kernel_rfl, of_decide_eq_true (by kernel_rfl)⟩
  · rw [Try.params9]; intro t ht; simp at ht; rcases ht with rfl | rfl <;> kernel_rfl
  · rw [Try.params9]
    intro ds hd
    match ds, hd with
    | [d, d2], _ => rfl
  · rw [Try.params9]
    exact fun xs h => only_args h
theorem only_holds : Rows.TreatyOnlySaid :=
  OpenClaim.holds_of_wide 9 Try.f9 rfl rfl rfl rfl rfl rfl rfl ⟨rfl, rfl, rfl, rfl, rfl⟩ rfl rfl rfl rfl rfl (by kernel_rfl) Try.func9 (by kernel_rfl)
    (of_decide_eq_true (by kernel_rfl)) (by unfold Func.isWrapper; first | (rw [if_pos (by decide +kernel)]; kernel_rfl) | (rw [if_neg (by decide +kernel)]; exact ⟨rfl, rfl⟩))
    (fun os started H enc _ => only_lifted os started H enc)
#print axioms only_holds
end Only
end Go.Proofs.Ytoafhoihigfllaa.E
