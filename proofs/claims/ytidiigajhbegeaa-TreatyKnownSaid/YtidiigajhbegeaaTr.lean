/-
  The chapter of the treaty: TreatyKnown: what is said of single claims, wishes and trades (a closed statement). Conditions: none.
-/
import Derived.Test.YtidiigajhbegeaaRows
import Derived.Test.YtidiigajhbegeaaTq
import Derived.Test.YtidiigajhbegeaaGe
import Derived.JoinedCond
import Derived.JoinedOf
namespace Go.Proofs.Ytidiigajhbegeaa.E
open Go Go.RowKit
set_option linter.unusedVariables false
namespace Known
theorem own : ownKnob Try.prog.godebug = none := by kernel_rfl
set_option maxRecDepth 100000 in
theorem known_lifted (os : Os) (started : os.Started) (H : Type) (enc : TypeId × Value → H) :
    ReturnsInHanded {} Try.checked os 3 .any (Rows.treatyKnownSpec.pre6 enc Try.prog Try.f3 Rows.treatyKnownRow.domain false) (Rows.treatyKnownSpec.post enc Try.prog Try.f3 false true false false) := by
  refine returnsInHanded_of_change_sized (C := Try.checked) own started (by kernel_rfl) Try.func3
    (ChangeSpec.witness6 (enc := enc) (C := Try.checked) false ⟨#[], #[], []⟩ 8 (by kernel_rfl) (by kernel_rfl) (by kernel_rfl) (by kernel_rfl)) ?_
  intro W base args ds gs before hval hW _ hwt _
  refine law_contract (P := Try.prog) (f := Try.f3) (s := Rows.treatyKnownSpec) (n := 5) (tb := 4) (by kernel_rfl) ?_ ?_ rfl (by kernel_rfl) Try.underlying4 ?_ ?_ hval hW hwt (fun _ _ h => by cases h)
  · rw [Try.params3]; intro t ht; simp at ht
  · rw [Try.params3]; intro t ht; simp at ht
  · rw [Try.params3]
    intro ds hd
    match ds, hd with
    | [], _ => rfl
  · rw [Try.params3]
    intro xs h
    have h0 : xs = [] := h
    subst h0
    exact known_valid
theorem known_holds : Rows.TreatyKnownSaid :=
  OpenClaim.holds_of_wide 3 Try.f3 rfl rfl rfl rfl rfl rfl rfl ⟨rfl, rfl, rfl, rfl, rfl⟩ rfl rfl rfl rfl rfl (by kernel_rfl) Try.func3 (by kernel_rfl)
    (of_decide_eq_true (by kernel_rfl)) (by unfold Func.isWrapper; first | (rw [if_pos (by decide +kernel)]; kernel_rfl) | (rw [if_neg (by decide +kernel)]; exact ⟨rfl, rfl⟩))
    (fun os started H enc _ => known_lifted os started H enc)
#print axioms known_holds
end Known
end Go.Proofs.Ytidiigajhbegeaa.E
