/-
  The chapter of the treaty: arguments of laws: lists of numbers, and of lists of them. Conditions: none.
-/
import Derived.Test.YtoafhoihigfllaaSv
namespace Go.Proofs.Ytoafhoihigfllaa.E
open Go Go.RowKit
set_option linter.unusedVariables false
namespace Args
theorem cells3 : Try.prog.cellsOf 3 = 1 := by kernel_rfl
theorem bytes3 : Try.prog.bytesOf 3 = 8 := by kernel_rfl
theorem cells22 : Try.prog.cellsOf 22 = 1 := by kernel_rfl
theorem bytes22 : Try.prog.bytesOf 22 = 24 := by kernel_rfl
theorem ints47 {n : Nat} {fs : List FV} (h : IsT Try.prog (n + 2) 22 fs) : ∃ l, fs = [.sl false 1 (ints l)] ∧ l.length * 8 ≤ 140737488355328 := by
  obtain ⟨xs, h1, hl, _⟩ := IsT_list Try.underlying22 h
  obtain ⟨l, h2, _⟩ := IsT_ints Try.underlying22 Try.underlying3 cells3 bytes3 h
  refine ⟨l, h2, ?_⟩
  rw [h1] at h2
  simp only [List.cons.injEq, FV.sl.injEq, and_true, true_and] at h2
  rw [h2.2, ints_length, bytes3, reachBytes] at hl
  omega
theorem struct22 : isStruct Try.prog 22 = false := by kernel_rfl
theorem rows47 {n : Nat} {fs : List FV} (h : IsT Try.prog (n + 3) 32 fs) : ∃ w, fs = [.sl false 1 (rowsF w)] ∧ Rows47 w := by
  obtain ⟨xs, rfl, hl, hx⟩ := IsT_list Try.underlying32 h
  have hx' : ∀ x ∈ xs, ∃ l, x = .sl false 1 (ints l) ∧ l.length * 8 ≤ 140737488355328 := fun x hm => by
    rcases hx x hm with ⟨h1, _⟩ | ⟨_, h1⟩
    · rw [struct22] at h1; cases h1
    · obtain ⟨l, h2, h3⟩ := ints47 h1
      exact ⟨l, by simpa using h2, h3⟩
  have key : ∃ w, xs = rowsF w ∧ ∀ p ∈ w, p.2.length * 8 ≤ 140737488355328 := by
    clear hl hx h
    induction xs with
    | nil => exact ⟨[], rfl, by simp⟩
    | cons x r ih =>
      obtain ⟨w, hw, h2⟩ := ih fun y hy => hx' y (List.mem_cons_of_mem _ hy)
      obtain ⟨l, hm, h3⟩ := hx' x List.mem_cons_self
      refine ⟨(false, l) :: w, by rw [hm, hw]; rfl, fun p hp => ?_⟩
      rcases List.mem_cons.mp hp with rfl | hp
      · exact h3
      · exact h2 p hp
  obtain ⟨w, rfl, h2⟩ := key
  refine ⟨w, by rw [cells22], ?_, h2⟩
  rw [bytes22, rowsF_length, reachBytes] at hl
  omega
theorem struct32 : isStruct Try.prog 32 = false := by kernel_rfl
theorem own : ownKnob Try.prog.godebug = none := by kernel_rfl
theorem struct3 : isStruct Try.prog 3 = false := by kernel_rfl
end Args
end Go.Proofs.Ytoafhoihigfllaa.E
