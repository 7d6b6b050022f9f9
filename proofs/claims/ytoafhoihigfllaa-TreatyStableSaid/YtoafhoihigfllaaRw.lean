/-
  The chapter of the treaty: TreatyStable: THE THEOREM OF THE TRADE: the deals that are returned are stable; those that countries make, asking curers, are so, too, as are any that are; by none of them a curer sells to a country that they like better, and the same curers sell to none, for any trade, and deals. Conditions: none.
-/
import Derived.Test.YtoafhoihigfllaaRows
import Derived.Test.YtoafhoihigfllaaSt
import Derived.Test.YtoafhoihigfllaaSh
import Derived.JoinedCond
import Derived.JoinedOf
namespace Go.Proofs.Ytoafhoihigfllaa.E
open Go Go.RowKit
set_option linter.unusedVariables false
namespace Stable
open Args
theorem stable_args {xs : List FV} (h : ArgsT Try.prog 5 [44, 22] xs) : Valid Try.prog 11 (xs.map fun x => (false, x)) [.fv (.bool true)] := by
  obtain ⟨fs, ys, h0, h1, h2⟩ := h
  obtain ⟨us, h6, h7⟩ := ArgsT_one h2
  obtain ⟨t, hf, ht⟩ := trade47 h1
  obtain ⟨d, hu, hd⟩ := ints47 h7
  rw [h0, h6, argFV_struct struct44, hf, hu, argFV_one struct22]
  exact law11 t ht d (by omega) false
set_option maxRecDepth 100000 in
theorem stable_lifted (os : Os) (started : os.Started) (H : Type) (enc : TypeId × Value → H) :
    ReturnsInHanded {} Try.checked os 11 .any (Rows.treatyStableSpec.pre6 enc Try.prog Try.f11 Rows.treatyStableRow.domain false) (Rows.treatyStableSpec.post enc Try.prog Try.f11 false true false false) := by
  refine returnsInHanded_of_change_sized (C := Try.checked) own started (by kernel_rfl) Try.func11
    (ChangeSpec.witness6 (enc := enc) (C := Try.checked) false ⟨#[], #[.agg #[.slice none 0 0, .slice none 0 0], .slice none 0 0], []⟩ 8 (by kernel_rfl) (by kernel_rfl) (by kernel_rfl) (by kernel_rfl)) ?_
  intro W base args ds gs before hval hW _ hwt _
  refine law_contract (P := Try.prog) (f := Try.f11) (s := Rows.treatyStableSpec) (n := 5) (tb := 4) (by kernel_rfl) ?_ ?_ rfl (by kernel_rfl) Try.underlying4 ?_ ?_ hval hW hwt
  · rw [Try.params11]; intro t ht; simp at ht; rcases ht with rfl | rfl <;> exact ⟨by kernel_rfl, of_decide_eq_true (by kernel_rfl)⟩
  · rw [Try.params11]; intro t ht; simp at ht; rcases ht with rfl | rfl <;> kernel_rfl
  · rw [Try.params11]
    intro ds hd
    match ds, hd with
    | [d0, d1], _ => rfl
  · rw [Try.params11]
    exact fun xs h => stable_args h
theorem stable_holds : Rows.TreatyStableSaid :=
  OpenClaim.holds_of_wide 11 Try.f11 rfl rfl rfl rfl rfl rfl rfl ⟨rfl, rfl, rfl, rfl, rfl⟩ rfl rfl rfl rfl rfl (by kernel_rfl) Try.func11 (by kernel_rfl)
    (of_decide_eq_true (by kernel_rfl)) (by unfold Func.isWrapper; first | (rw [if_pos (by decide +kernel)]; kernel_rfl) | (rw [if_neg (by decide +kernel)]; exact ⟨rfl, rfl⟩))
    (fun os started H enc _ => stable_lifted os started H enc)
#print axioms stable_holds
end Stable
end Go.Proofs.Ytoafhoihigfllaa.E
