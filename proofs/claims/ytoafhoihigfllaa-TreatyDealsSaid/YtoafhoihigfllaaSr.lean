/-
  The chapter of the treaty: TreatyDeals: CheckTrade, Stable and Deals return what the chapter says, for any trade and deals. Conditions: none.
-/
import Derived.Test.YtoafhoihigfllaaRows
import Derived.Test.YtoafhoihigfllaaSp
import Derived.Test.YtoafhoihigfllaaSh
import Derived.JoinedCond
import Derived.JoinedOf
namespace Go.Proofs.Ytoafhoihigfllaa.E
open Go Go.RowKit
set_option linter.unusedVariables false
namespace Deals
open Args
theorem deals_args {xs : List FV} (h : ArgsT Try.prog 5 [44, 22] xs) : Valid Try.prog 6 (xs.map fun x => (false, x)) [.fv (.bool true)] := by
  obtain ⟨fs, ys, h0, h1, h2⟩ := h
  obtain ⟨us, h6, h7⟩ := ArgsT_one h2
  obtain ⟨t, hf, ht, hfl, -⟩ := trade47f h1
  obtain ⟨d, hu, hd⟩ := ints47 h7
  rw [h0, h6, argFV_struct struct44, hf, hu, argFV_one struct22]
  exact law6 t ht hfl d (by omega) false false
set_option maxRecDepth 100000 in
theorem deals_lifted (os : Os) (started : os.Started) (H : Type) (enc : TypeId × Value → H) :
    ReturnsInHanded {} Try.checked os 6 .any (Rows.treatyDealsSpec.pre6 enc Try.prog Try.f6 Rows.treatyDealsRow.domain false) (Rows.treatyDealsSpec.post enc Try.prog Try.f6 false true false false) := by
  refine returnsInHanded_of_change_sized (C := Try.checked) own started (by kernel_rfl) Try.func6
    (ChangeSpec.witness6 (enc := enc) (C := Try.checked) false ⟨#[], #[.agg #[.slice none 0 0, .slice none 0 0], .slice none 0 0], []⟩ 8 (by kernel_rfl) (by kernel_rfl) (by kernel_rfl) (by kernel_rfl)) ?_
  intro W base args ds gs before hval hW _ hwt _
  refine law_contract (P := Try.prog) (f := Try.f6) (s := Rows.treatyDealsSpec) (n := 5) (tb := 4) (by kernel_rfl) ?_ ?_ rfl (by kernel_rfl) Try.underlying4 ?_ ?_ hval hW hwt
  · rw [Try.params6]; intro t ht; simp at ht; rcases ht with rfl | rfl <;> exact ⟨by kernel_rfl, of_decide_eq_true (by kernel_rfl)⟩
  · rw [Try.params6]; intro t ht; simp at ht; rcases ht with rfl | rfl <;> kernel_rfl
  · rw [Try.params6]
    intro ds hd
    match ds, hd with
    | [d0, d1], _ => rfl
  · rw [Try.params6]
    exact fun xs h => deals_args h
theorem deals_holds : Rows.TreatyDealsSaid :=
  OpenClaim.holds_of_wide 6 Try.f6 rfl rfl rfl rfl rfl rfl rfl ⟨rfl, rfl, rfl, rfl, rfl⟩ rfl rfl rfl rfl rfl (by kernel_rfl) Try.func6 (by kernel_rfl)
    (of_decide_eq_true (by kernel_rfl)) (by unfold Func.isWrapper; first | (rw [if_pos (by decide +kernel)]; kernel_rfl) | (rw [if_neg (by decide +kernel)]; exact ⟨rfl, rfl⟩))
    (fun os started H enc _ => deals_lifted os started H enc)
#print axioms deals_holds
end Deals
end Go.Proofs.Ytoafhoihigfllaa.E
