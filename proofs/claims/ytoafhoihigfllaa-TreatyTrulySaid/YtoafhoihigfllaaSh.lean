/-
  The chapter of the treaty: arguments of laws: trades. Conditions: none.
-/
import Derived.Test.YtoafhoihigfllaaSw
import Derived.Test.YtoafhoihigfllaaRm
namespace Go.Proofs.Ytoafhoihigfllaa.E
open Go Go.RowKit
set_option linter.unusedVariables false
set_option linter.unusedSimpArgs false
namespace Args
theorem struct64 : isStruct Try.prog 64 = true := by kernel_rfl
theorem struct44 : isStruct Try.prog 44 = true := by kernel_rfl
theorem cells64 : Try.prog.cellsOf 64 = 2 := by kernel_rfl
theorem bytes64 : Try.prog.bytesOf 64 = 32 := by kernel_rfl
theorem ctry47 {n : Nat} {fs : List FV} (h : IsT Try.prog (n + 3) 64 fs) : ∃ p : Ctry, .agg fs = ctryF p ∧ p.2.2.length * 8 ≤ 140737488355328 := by
  obtain ⟨g0, g1, rfl, h0, h1⟩ := IsT_pair Try.underlying64 h
  obtain ⟨m, rfl⟩ := IsT_int Try.underlying3 h0
  obtain ⟨l, rfl, hl⟩ := ints47 h1
  exact ⟨(m, false, l), rfl, hl⟩
theorem ctrys47 {n : Nat} {fs : List FV} (h : IsT Try.prog (n + 4) 42 fs) : ∃ w, fs = [.sl false 2 (ctrysF w)] ∧ w.length < 2^62 ∧ ∀ p ∈ w, p.2.2.length * 8 ≤ 140737488355328 := by
  obtain ⟨xs, rfl, hl, hx⟩ := IsT_list Try.underlying42 h
  have hx' : ∀ x ∈ xs, ∃ p : Ctry, x = ctryF p ∧ p.2.2.length * 8 ≤ 140737488355328 := fun x hm => by
    rcases hx x hm with ⟨_, gs, e, h1⟩ | ⟨h1, _⟩
    · obtain ⟨p, h2, h3⟩ := ctry47 h1
      exact ⟨p, by rw [e, h2], h3⟩
    · rw [struct64] at h1; cases h1
  have key : ∃ w, xs = ctrysF w ∧ ∀ p ∈ w, p.2.2.length * 8 ≤ 140737488355328 := by
    clear hl hx h
    induction xs with
    | nil => exact ⟨[], rfl, by simp⟩
    | cons x r ih =>
      obtain ⟨w, hw, h2⟩ := ih fun y hy => hx' y (List.mem_cons_of_mem _ hy)
      obtain ⟨l, hm, h3⟩ := hx' x List.mem_cons_self
      refine ⟨l :: w, by rw [hm, hw]; rfl, fun p hp => ?_⟩
      rcases List.mem_cons.mp hp with rfl | hp
      · exact h3
      · exact h2 p hp
  obtain ⟨w, rfl, h2⟩ := key
  refine ⟨w, by rw [cells64], ?_, h2⟩
  rw [bytes64, ctrysF_length, reachBytes] at hl
  omega
theorem trade47 {n : Nat} {fs : List FV} (h : IsT Try.prog (n + 5) 44 fs) : ∃ t : Trade, .agg fs = tradeF t ∧ Trade47 t := by
  obtain ⟨g0, g1, rfl, h0, h1⟩ := IsT_pair Try.underlying44 h
  obtain ⟨w, rfl, hw⟩ := rows47 h0
  obtain ⟨v, rfl, hv, hv2⟩ := ctrys47 h1
  exact ⟨⟨false, w, false, v⟩, rfl, by have := hw.len; omega, hv, hw.row, hv2⟩
theorem rows47f {n : Nat} {fs : List FV} (h : IsT Try.prog (n + 3) 32 fs) : ∃ w, fs = [.sl false 1 (rowsF w)] ∧ Rows47 w ∧ ∀ p ∈ w, p.1 = false := by
  obtain ⟨xs, rfl, hl, hx⟩ := IsT_list Try.underlying32 h
  have hx' : ∀ x ∈ xs, ∃ l, x = .sl false 1 (ints l) ∧ l.length * 8 ≤ 140737488355328 := fun x hm => by
    rcases hx x hm with ⟨h1, _⟩ | ⟨_, h1⟩
    · rw [struct22] at h1; cases h1
    · obtain ⟨l, h2, h3⟩ := ints47 h1
      exact ⟨l, by simpa using h2, h3⟩
  have key : ∃ w, xs = rowsF w ∧ (∀ p ∈ w, p.2.length * 8 ≤ 140737488355328) ∧ ∀ p ∈ w, p.1 = false := by
    clear hl hx h
    induction xs with
    | nil => exact ⟨[], rfl, by simp, by simp⟩
    | cons x r ih =>
      obtain ⟨w, hw, h2, h4⟩ := ih fun y hy => hx' y (List.mem_cons_of_mem _ hy)
      obtain ⟨l, hm, h3⟩ := hx' x List.mem_cons_self
      refine ⟨(false, l) :: w, by rw [hm, hw]; rfl, fun p hp => ?_, fun p hp => ?_⟩
      · rcases List.mem_cons.mp hp with rfl | hp
        · exact h3
        · exact h2 p hp
      · rcases List.mem_cons.mp hp with rfl | hp
        · rfl
        · exact h4 p hp
  obtain ⟨w, rfl, h2, h4⟩ := key
  refine ⟨w, by rw [cells22], ⟨?_, h2⟩, h4⟩
  rw [bytes22, rowsF_length, reachBytes] at hl
  omega
theorem trade47f {n : Nat} {fs : List FV} (h : IsT Try.prog (n + 5) 44 fs) : ∃ t : Trade, .agg fs = tradeF t ∧ Trade47 t ∧ (∀ p ∈ t.cu, p.1 = false) ∧ t.fc = false ∧ t.fd = false ∧ t.cu.length * 24 ≤ 140737488355328 ∧ t.co.length * 32 ≤ 140737488355328 := by
  obtain ⟨g0, g1, rfl, h0, h1⟩ := IsT_pair Try.underlying44 h
  obtain ⟨xs, e1, hl1, _⟩ := IsT_list Try.underlying32 h0
  obtain ⟨ys, e2, hl2, _⟩ := IsT_list Try.underlying42 h1
  obtain ⟨w, rfl, hw, hw2⟩ := rows47f h0
  obtain ⟨v, rfl, hv, hv2⟩ := ctrys47 h1
  simp only [List.cons.injEq, FV.sl.injEq, and_true, true_and] at e1 e2
  rw [← e1.2, bytes22, rowsF_length, reachBytes] at hl1
  rw [← e2.2, bytes64, ctrysF_length, reachBytes] at hl2
  exact ⟨⟨false, w, false, v⟩, rfl, ⟨by have := hw.len; omega, hv, hw.row, hv2⟩, hw2, rfl, rfl, by simp only; omega, by simp only; omega⟩
end Args
end Go.Proofs.Ytoafhoihigfllaa.E
