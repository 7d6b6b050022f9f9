/-
  The chapter of the treaty: TreatyTruly: no curer sells to a country that they like better by any other list of theirs than the one that is so, for any trade; numbers choose the curer, and the other list. Conditions: none.
-/
import Derived.Test.YtoafhoihigfllaaRows
import Derived.Test.YtoafhoihigfllaaSu
import Derived.Test.YtoafhoihigfllaaSh
import Derived.JoinedCond
import Derived.JoinedOf
namespace Go.Proofs.Ytoafhoihigfllaa.E
open Go Go.RowKit
set_option linter.unusedVariables false
namespace Truly
open Args
theorem truly_args {xs : List FV} (h : ArgsT Try.prog 5 [44, 3, 22] xs) : Valid Try.prog 12 (xs.map fun x => (false, x)) [.fv (.bool true)] := by
  obtain ⟨fs, ys, h0, h1, us, zs, h2, h3, h4⟩ := h
  obtain ⟨ws, h6, h7⟩ := ArgsT_one h4
  obtain ⟨t, hf, ht, -, hfc, -, hl, -⟩ := trade47f h1
  obtain ⟨n, hn⟩ := IsT_int Try.underlying3 h3
  obtain ⟨d, hu, -⟩ := ints47 h7
  rw [h0, h2, h6, argFV_struct struct44, hf, hn, hu, argFV_one struct3, argFV_one struct22]
  exact law12 t ht hfc hl n d false false false
set_option maxRecDepth 100000 in
theorem truly_lifted (os : Os) (started : os.Started) (H : Type) (enc : TypeId × Value → H) :
    ReturnsInHanded {} Try.checked os 12 .any (Rows.treatyTrulySpec.pre6 enc Try.prog Try.f12 Rows.treatyTrulyRow.domain false) (Rows.treatyTrulySpec.post enc Try.prog Try.f12 false true false false) := by
  refine returnsInHanded_of_change_sized (C := Try.checked) own started (by kernel_rfl) Try.func12
    (ChangeSpec.witness6 (enc := enc) (C := Try.checked) false ⟨#[], #[.agg #[.slice none 0 0, .slice none 0 0], .int .i64 0, .slice none 0 0], []⟩ 8 (by kernel_rfl) (by kernel_rfl) (by kernel_rfl) (by kernel_rfl)) ?_
  intro W base args ds gs before hval hW _ hwt _
  refine law_contract (P := Try.prog) (f := Try.f12) (s := Rows.treatyTrulySpec) (n := 5) (tb := 4) (by kernel_rfl) ?_ ?_ rfl (by kernel_rfl) Try.underlying4 ?_ ?_ hval hW hwt
  · rw [Try.params12]; intro t ht; simp at ht; rcases ht with rfl | rfl | rfl <;> exact ⟨by kernel_rfl, of_decide_eq_true (by kernel_rfl)⟩
  · rw [Try.params12]; intro t ht; simp at ht; rcases ht with rfl | rfl | rfl <;> kernel_rfl
  · rw [Try.params12]
    intro ds hd
    match ds, hd with
    | [d0, d1, d2], _ => rfl
  · rw [Try.params12]
    exact fun xs h => truly_args h
theorem truly_holds : Rows.TreatyTrulySaid :=
  OpenClaim.holds_of_wide 12 Try.f12 rfl rfl rfl rfl rfl rfl rfl ⟨rfl, rfl, rfl, rfl, rfl⟩ rfl rfl rfl rfl rfl (by kernel_rfl) Try.func12 (by kernel_rfl)
    (of_decide_eq_true (by kernel_rfl)) (by unfold Func.isWrapper; first | (rw [if_pos (by decide +kernel)]; kernel_rfl) | (rw [if_neg (by decide +kernel)]; exact ⟨rfl, rfl⟩))
    (fun os started H enc _ => truly_lifted os started H enc)
#print axioms truly_holds
end Truly
end Go.Proofs.Ytoafhoihigfllaa.E
