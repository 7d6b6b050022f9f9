/-
  The chapter of the treaty: TreatyRoom: a country that has room left takes each curer who has it in their list, unless they sell to one that they like better; a country that is full takes only curers whom it likes at least as well as any that would rather sell to it, for any trade; numbers choose the curer and the country. Conditions: none.
-/
import Derived.Test.YtoafhoihigfllaaRows
import Derived.Test.YtoafhoihigfllaaSa
import Derived.Test.YtoafhoihigfllaaSh
import Derived.JoinedCond
import Derived.JoinedOf
namespace Go.Proofs.Ytoafhoihigfllaa.E
open Go Go.RowKit
set_option linter.unusedVariables false
namespace Room
open Args
theorem struct66 : isStruct Try.prog 66 = true := by kernel_rfl
theorem law14 (t : Trade) (ht : Trade47 t) (a b : Int) (r1 : Bool) : Valid Try.prog 14 [(false, tradeF t), (r1, .agg [.int .i64 a, .int .i64 b])] [.fv (.bool true)] :=
  v14 _ (fam_ctx [F43, F34, F45, F46, F40, F37i, F36, F20]) t a b r1 (at43 rfl ht) (at34 rfl ht) (fun hok => at45 rfl (okTrade_iff.mp hok).row62) (at46 rfl) (at40 rfl) (at37 rfl) (at36 rfl) (fam_at (F := F20) rfl () rfl rfl)
theorem room_args {xs : List FV} (h : ArgsT Try.prog 5 [44, 66] xs) : Valid Try.prog 14 (xs.map fun x => (false, x)) [.fv (.bool true)] := by
  obtain ⟨fs, ys, h0, h1, h2⟩ := h
  obtain ⟨us, h6, h7⟩ := ArgsT_one h2
  obtain ⟨t, hf, ht⟩ := trade47 h1
  obtain ⟨a, b, hu⟩ := IsT_two Try.underlying66 Try.underlying3 h7
  rw [h0, h6, argFV_struct struct44, argFV_struct struct66, hf, hu]
  exact law14 t ht a b false
set_option maxRecDepth 100000 in
theorem room_lifted (os : Os) (started : os.Started) (H : Type) (enc : TypeId × Value → H) :
    ReturnsInHanded {} Try.checked os 14 .any (Rows.treatyRoomSpec.pre6 enc Try.prog Try.f14 Rows.treatyRoomRow.domain false) (Rows.treatyRoomSpec.post enc Try.prog Try.f14 false true false false) := by
  refine returnsInHanded_of_change_sized (C := Try.checked) own started (by kernel_rfl) Try.func14
    (ChangeSpec.witness6 (enc := enc) (C := Try.checked) false ⟨#[], #[.agg #[.slice none 0 0, .slice none 0 0], .agg #[.int .i64 0, .int .i64 0]], []⟩ 8 (by kernel_rfl) (by kernel_rfl) (by kernel_rfl) (by kernel_rfl)) ?_
  intro W base args ds gs before hval hW _ hwt _
  refine law_contract (P := Try.prog) (f := Try.f14) (s := Rows.treatyRoomSpec) (n := 5) (tb := 4) (by kernel_rfl) ?_ ?_ rfl (by kernel_rfl) Try.underlying4 ?_ ?_ hval hW hwt
  · rw [Try.params14]; intro t ht; simp at ht; rcases ht with rfl | rfl <;> exact ⟨by kernel_rfl, of_decide_eq_true (by kernel_rfl)⟩
  · rw [Try.params14]; intro t ht; simp at ht; rcases ht with rfl | rfl <;> kernel_rfl
  · rw [Try.params14]
    intro ds hd
    match ds, hd with
    | [d0, d1], _ => rfl
  · rw [Try.params14]
    exact fun xs h => room_args h
theorem room_holds : Rows.TreatyRoomSaid :=
  OpenClaim.holds_of_wide 14 Try.f14 rfl rfl rfl rfl rfl rfl rfl ⟨rfl, rfl, rfl, rfl, rfl⟩ rfl rfl rfl rfl rfl (by kernel_rfl) Try.func14 (by kernel_rfl)
    (of_decide_eq_true (by kernel_rfl)) (by unfold Func.isWrapper; first | (rw [if_pos (by decide +kernel)]; kernel_rfl) | (rw [if_neg (by decide +kernel)]; exact ⟨rfl, rfl⟩))
    (fun os started H enc _ => room_lifted os started H enc)
#print axioms room_holds
end Room
end Go.Proofs.Ytoafhoihigfllaa.E
