/-
  The chapter of the treaty: TreatyHonest: no nation gets a ground that it wishes more by other wishes than its own ones, whatever the others wish, for any wishes; numbers choose the nation, and its other wishes. Conditions: none.
-/
import Derived.Test.YtoafhoihigfllaaRows
import Derived.Test.YtoafhoihigfllaaDc
import Derived.Test.YtoafhoihigfllaaSw
import Derived.JoinedCond
import Derived.JoinedOf
namespace Go.Proofs.Ytoafhoihigfllaa.E
open Go Go.RowKit
set_option linter.unusedVariables false
namespace Honest
open Args
theorem honest_args {xs : List FV} (h : ArgsT Try.prog 4 [32, 3, 22] xs) : Valid Try.prog 10 (xs.map fun x => (false, x)) [.fv (.bool true)] := by
  obtain ⟨fs, ys, h0, h1, h2⟩ := h
  obtain ⟨gs, zs, h3, h4, h5⟩ := h2
  obtain ⟨us, h6, h7⟩ := ArgsT_one h5
  obtain ⟨w, hf, hr⟩ := rows47 h1
  obtain ⟨n, hg⟩ := IsT_int Try.underlying3 h4
  obtain ⟨x, hu, hx⟩ := ints47 h7
  rw [h0, h3, h6, hf, hg, hu, argFV_one struct32, argFV_one struct22, argFV_one struct3]
  exact law10 w false hr n x false false false
set_option maxRecDepth 100000 in
theorem honest_lifted (os : Os) (started : os.Started) (H : Type) (enc : TypeId × Value → H) :
    ReturnsInHanded {} Try.checked os 10 .any (Rows.treatyHonestSpec.pre6 enc Try.prog Try.f10 Rows.treatyHonestRow.domain false) (Rows.treatyHonestSpec.post enc Try.prog Try.f10 false true false false) := by
  refine returnsInHanded_of_change_sized (C := Try.checked) own started (by kernel_rfl) Try.func10
    (ChangeSpec.witness6 (enc := enc) (C := Try.checked) false ⟨#[], #[.slice none 0 0, .int .i64 0, .slice none 0 0], []⟩ 8 (by kernel_rfl) (by kernel_rfl) (by kernel_rfl) (by kernel_rfl)) ?_
  intro W base args ds gs before hval hW _ hwt _
  refine law_contract (P := Try.prog) (f := Try.f10) (s := Rows.treatyHonestSpec) (n := 4) (tb := 4) (by kernel_rfl) ?_ ?_ rfl (by kernel_rfl) Try.underlying4 ?_ ?_ hval hW hwt
  · rw [Try.params10]; intro t ht; simp at ht; rcases ht with rfl | rfl | rfl <;> exact ⟨by kernel_rfl, of_decide_eq_true (by kernel_rfl)⟩
  · rw [Try.params10]; intro t ht; simp at ht; rcases ht with rfl | rfl | rfl <;> kernel_rfl
  · rw [Try.params10]
    intro ds hd
    match ds, hd with
    | [d, d2, d3], _ => rfl
  · rw [Try.params10]
    exact fun xs h => honest_args h
theorem honest_holds : Rows.TreatyHonestSaid :=
  OpenClaim.holds_of_wide 10 Try.f10 rfl rfl rfl rfl rfl rfl rfl ⟨rfl, rfl, rfl, rfl, rfl⟩ rfl rfl rfl rfl rfl (by kernel_rfl) Try.func10 (by kernel_rfl)
    (of_decide_eq_true (by kernel_rfl)) (by unfold Func.isWrapper; first | (rw [if_pos (by decide +kernel)]; kernel_rfl) | (rw [if_neg (by decide +kernel)]; exact ⟨rfl, rfl⟩))
    (fun os started H enc _ => honest_lifted os started H enc)
#print axioms honest_holds
end Honest
end Go.Proofs.Ytoafhoihigfllaa.E
