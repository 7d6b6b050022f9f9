/-
  The chapter of the treaty: TreatyClosed: if a country closes, no curer sells to one that they like better, and no other country takes fewer curers; if it opens, with room for one more, no curer sells to one that they like less, for any trade; a number chooses the country. Conditions: none.
-/
import Derived.Test.YtoafhoihigfllaaRows
import Derived.Test.YtoafhoihigfllaaSz
import Derived.Test.YtoafhoihigfllaaSh
import Derived.JoinedCond
import Derived.JoinedOf
namespace Go.Proofs.Ytoafhoihigfllaa.E
open Go Go.RowKit
set_option linter.unusedVariables false
namespace Closed
open Args
theorem closed_args {xs : List FV} (h : ArgsT Try.prog 5 [44, 3] xs) : Valid Try.prog 13 (xs.map fun x => (false, x)) [.fv (.bool true)] := by
  obtain ⟨fs, ys, h0, h1, h2⟩ := h
  obtain ⟨us, h6, h7⟩ := ArgsT_one h2
  obtain ⟨t, hf, ht, -, -, hfd, -, hl⟩ := trade47f h1
  obtain ⟨n, hu⟩ := IsT_int Try.underlying3 h7
  rw [h0, h6, argFV_struct struct44, hf, hu, argFV_one struct3]
  exact law13 t ht hfd hl n false
set_option maxRecDepth 100000 in
theorem closed_lifted (os : Os) (started : os.Started) (H : Type) (enc : TypeId × Value → H) :
    ReturnsInHanded {} Try.checked os 13 .any (Rows.treatyClosedSpec.pre6 enc Try.prog Try.f13 Rows.treatyClosedRow.domain false) (Rows.treatyClosedSpec.post enc Try.prog Try.f13 false true false false) := by
  refine returnsInHanded_of_change_sized (C := Try.checked) own started (by kernel_rfl) Try.func13
    (ChangeSpec.witness6 (enc := enc) (C := Try.checked) false ⟨#[], #[.agg #[.slice none 0 0, .slice none 0 0], .int .i64 0], []⟩ 8 (by kernel_rfl) (by kernel_rfl) (by kernel_rfl) (by kernel_rfl)) ?_
  intro W base args ds gs before hval hW _ hwt _
  refine law_contract (P := Try.prog) (f := Try.f13) (s := Rows.treatyClosedSpec) (n := 5) (tb := 4) (by kernel_rfl) ?_ ?_ rfl (by kernel_rfl) Try.underlying4 ?_ ?_ hval hW hwt
  · rw [Try.params13]; intro t ht; simp at ht; rcases ht with rfl | rfl <;> exact ⟨by kernel_rfl, of_decide_eq_true (by kernel_rfl)⟩
  · rw [Try.params13]; intro t ht; simp at ht; rcases ht with rfl | rfl <;> kernel_rfl
  · rw [Try.params13]
    intro ds hd
    match ds, hd with
    | [d0, d1], _ => rfl
  · rw [Try.params13]
    exact fun xs h => closed_args h
theorem closed_holds : Rows.TreatyClosedSaid :=
  OpenClaim.holds_of_wide 13 Try.f13 rfl rfl rfl rfl rfl rfl rfl ⟨rfl, rfl, rfl, rfl, rfl⟩ rfl rfl rfl rfl rfl (by kernel_rfl) Try.func13 (by kernel_rfl)
    (of_decide_eq_true (by kernel_rfl)) (by unfold Func.isWrapper; first | (rw [if_pos (by decide +kernel)]; kernel_rfl) | (rw [if_neg (by decide +kernel)]; exact ⟨rfl, rfl⟩))
    (fun os started H enc _ => closed_lifted os started H enc)
#print axioms closed_holds
end Closed
end Go.Proofs.Ytoafhoihigfllaa.E
