/-
  The engine, part 2a: what is reckoned of a state is reckoned alike of a state that says more. Conditions: none; it is stated of any program and table of its types.
-/
import Derived.Test.YtoafhoihigfllaaEq
namespace Go.Proofs.Ytoafhoihigfllaa.E
open Go Go.RowKit
set_option linter.unusedVariables false
set_option linter.unusedSimpArgs false

/-- The second state says all that the first says. -/
def Le (σ τ : St) : Prop := (∀ k v, lk k σ.env = some v → lk k τ.env = some v) ∧ ∀ s b, lk s σ.blk = some b → lk s τ.blk = some b
section
variable {σ τ : St} {G : Pg}
theorem pres_mono (H : Le σ τ) {s : Nat} (h : pres σ s = true) : pres τ s = true := by
  simp only [pres, Option.isSome_iff_exists] at h ⊢
  obtain ⟨b, hb⟩ := h
  exact ⟨b, H.2 _ _ hb⟩
theorem opd_mono (H : Le σ τ) {x : Operand} {v : V} (h : opd σ x = some v) : opd τ x = some v := by
  cases x with
  | tmp t =>
    simp only [opd] at h ⊢
    split at h
    · simp at h
    · rename_i hg; rw [if_neg hg]; exact H.1 _ _ h
  | const v => exact h
  | func f => exact h
  | global g => exact h
theorem look_mono (H : Le σ τ) {p : V} {n : Nat} {cs : List V} (h : look σ p n = some cs) : look τ p n = some cs := by
  unfold look at h ⊢
  split at h
  · exact h
  · exact h
  · split at h
    · rename_i hb; (try simp only [H.2 _ _ hb]); exact h
    · simp at h
  · split at h
    · rename_i hb; (try simp only [H.2 _ _ hb]); exact h
    · simp at h
  · simp at h
theorem loadA_mono (H : Le σ τ) {t : Nat} {p r : V} (h : loadA G σ t p = some r) : loadA G τ t p = some r := by
  unfold loadA at h ⊢
  split at h
  · rename_i ti hti
    split at h
    · rename_i cs hl; (try simp only [hti, look_mono H hl]); exact h
    · simp at h
  · simp at h
theorem padd_mono (H : Le σ τ) {p r : V} {k : Nat} (h : padd σ p k = some r) : padd τ p k = some r := by
  unfold padd at h ⊢
  split at h
  · exact h
  · split at h
    · rename_i hp; (try simp only [pres_mono H hp, if_true]); exact h
    · simp at h
  · split at h
    · rename_i hp; (try simp only [pres_mono H hp, if_true]); exact h
    · simp at h
  · simp at h
theorem fieldA_mono (H : Le σ τ) {t : Nat} {p r : V} {i : Nat} (h : fieldA G σ t p i = some r) : fieldA G τ t p i = some r := by
  unfold fieldA at h ⊢
  split at h
  · rename_i e; (try simp only [e])
    split at h
    · rename_i e1; (try simp only [e1])
      split at h
      · rename_i e2; (try simp only [e2])
        split at h
        · simp at h
        · rename_i h0; rw [if_neg h0]; exact padd_mono H h
      · simp at h
    · simp at h
  · simp at h
theorem indexA_mono (H : Le σ τ) {t : Nat} {p r : V} {n : Int} (h : indexA G σ t p n = some r) : indexA G τ t p n = some r := by
  unfold indexA at h ⊢
  split at h
  · rename_i e; (try simp only [e])
    split at h
    · rename_i e1; (try simp only [e1])
      split at h
      · split at h
        · rename_i hb; (try simp only [H.2 _ _ hb]); exact h
        · simp at h
      · exact h
      · simp at h
    · simp at h
  · rename_i e; (try simp only [e])
    split at h
    · rename_i e1; (try simp only [e1])
      split at h
      · rename_i h0; rw [if_pos h0]; exact padd_mono H h
      · simp at h
    · simp at h
  · simp at h
theorem subsl_mono (H : Le σ τ) {t : Nat} {p r : V} {lo : Int} {hi mx : Option Int} (h : subsl G σ t p lo hi mx = some r) : subsl G τ t p lo hi mx = some r := by
  unfold subsl at h ⊢
  split at h
  · rename_i e; (try simp only [e])
    split at h
    · rename_i e1; (try simp only [e1])
      split at h
      · split at h
        · rename_i hb; (try simp only [H.2 _ _ hb]); exact h
        · simp at h
      · exact h
      · simp at h
    · simp at h
  · simp at h
theorem vcells_mono (H : Le σ τ) {x : V} {cs : List V} (h : vcells σ x = some cs) : vcells τ x = some cs := by
  unfold vcells at h ⊢
  split at h
  · exact h
  · exact h
  · exact h
  · split at h
    · rename_i hp; (try simp only [pres_mono H hp, if_true]); exact h
    · simp at h
  · split at h
    · rename_i hp; (try simp only [pres_mono H hp, if_true]); exact h
    · simp at h
  · split at h
    · rename_i hp; (try simp only [pres_mono H hp, if_true]); exact h
    · simp at h
  · split at h
    · rename_i hp; (try simp only [pres_mono H hp, if_true]); exact h
    · simp at h
  · exact h
  · simp at h
theorem fillV_mono (H : Le σ τ) {pl : List (Nat × Nat)} : ∀ {ps : List (Nat × V)} {cells r : List V}, fillV σ pl cells ps = some r → fillV τ pl cells ps = some r
  | [], cells, r, h => by simpa [fillV] using h
  | (i, v) :: rest, cells, r, h => by
    simp only [fillV] at h ⊢
    split at h
    · rename_i e1 e2
      (try simp only [e1, vcells_mono H e2])
      split at h
      · rename_i h0; rw [if_pos h0]; exact fillV_mono H h
      · simp at h
    · simp at h
theorem opds_mono (H : Le σ τ) : ∀ {xs : List Operand} {vs : List V}, opds σ xs = some vs → opds τ xs = some vs
  | [], vs, h => by simpa [opds] using h
  | x :: r, vs, h => by
    simp only [opds] at h ⊢
    split at h
    · rename_i e1 e2
      simp only [opd_mono H e1, opds_mono H e2]; exact h
    · simp at h
theorem parts_mono (H : Le σ τ) : ∀ {xs : List (Nat × Operand)} {vs : List (Nat × V)}, parts σ xs = some vs → parts τ xs = some vs
  | [], vs, h => by simpa [parts] using h
  | (i, x) :: r, vs, h => by
    simp only [parts] at h ⊢
    split at h
    · rename_i e1 e2
      simp only [opd_mono H e1, parts_mono H e2]; exact h
    · simp at h
theorem buildA_mono (H : Le σ τ) {t : Nat} {ps : List (Nat × V)} {r : V} (h : buildA G σ t ps = some r) : buildA G τ t ps = some r := by
  unfold buildA at h ⊢
  split at h
  · rename_i e; (try simp only [e])
    split at h
    · rename_i e1; (try simp only [e1])
      simp only [Option.map_eq_some_iff] at h ⊢
      obtain ⟨x, hx, rfl⟩ := h
      exact ⟨x, fillV_mono H hx, rfl⟩
    · simp at h
  · rename_i e; (try simp only [e])
    split at h
    · rename_i e1; (try simp only [e1])
      simp only [Option.map_eq_some_iff] at h ⊢
      obtain ⟨x, hx, rfl⟩ := h
      exact ⟨x, fillV_mono H hx, rfl⟩
    · simp at h
  · simp at h
theorem nonnil_mono (H : Le σ τ) {x r : V} (h : nonnil σ x = some r) : nonnil τ x = some r := by
  unfold nonnil at h ⊢
  split at h
  · exact h
  · exact h
  · split at h
    · rename_i hp; (try simp only [pres_mono H hp, if_true]); exact h
    · simp at h
  · split at h
    · rename_i hp; (try simp only [pres_mono H hp, if_true]); exact h
    · simp at h
  · exact h
  · exact h
  · simp at h
theorem lenA_mono (H : Le σ τ) {t : Nat} {x : V} {n : Int} (h : lenA G σ t x = some n) : lenA G τ t x = some n := by
  unfold lenA at h ⊢
  split at h
  · rename_i e; (try simp only [e])
    split at h
    · rename_i hp; (try simp only [pres_mono H hp, if_true]); exact h
    · simp at h
  · rename_i e; (try simp only [e]); exact h
  · rename_i e; (try simp only [e]); exact h
  · simp at h
theorem popt_mono (H : Le σ τ) {x : Option Operand} {v : Option V} (h : popt σ x = some v) : popt τ x = some v := by
  cases x with
  | none => exact h
  | some y =>
    simp only [popt, Option.map_eq_some_iff] at h ⊢
    obtain ⟨u, hu, rfl⟩ := h
    exact ⟨u, opd_mono H hu, rfl⟩
theorem popA_mono (H : Le σ τ) {o : Op} {r : V} (h : popA G σ o = some r) : popA G τ o = some r := by
  unfold popA at h ⊢
  split at h
  · exact opd_mono H h
  · exact opd_mono H h
  · split at h
    · rename_i e; (try simp only [opd_mono H e])
      split at h
      · rename_i h0; rw [if_pos h0]; exact opd_mono H h
      · rename_i h0; rw [if_neg h0]; exact opd_mono H h
    · simp at h
  · split at h
    · rename_i e; (try simp only [opd_mono H e]); exact loadA_mono H h
    · simp at h
  · split at h
    · rename_i e; (try simp only [opd_mono H e]); exact nonnil_mono H h
    · simp at h
  · split at h
    · rename_i e1 e2; (try simp only [opd_mono H e1, opd_mono H e2]); exact h
    · simp at h
  · split at h
    · rename_i e1; (try simp only [opd_mono H e1]); exact h
    · simp at h
  · split at h
    · rename_i e1 e2; (try simp only [opds_mono H e1, opds_mono H e2]); exact h
    · simp at h
  · split at h
    · rename_i e1 e2 e3 e4
      simp only [opd_mono H e1, popt_mono H e2, popt_mono H e3, popt_mono H e4]
      split at h
      · rename_i d1 d2 d3
        (try simp only [d1, d2, d3])
        split at h
        · rename_i h0; rw [if_pos h0]; exact subsl_mono H h
        · simp at h
      · simp at h
    · simp at h
  · split at h
    · rename_i e1; (try simp only [opd_mono H e1]); exact fieldA_mono H h
    · simp at h
  · split at h
    · rename_i e1 e2; (try simp only [opd_mono H e1, opd_mono H e2])
      split at h
      · rename_i d; (try simp only [d]); exact indexA_mono H h
      · simp at h
    · simp at h
  · split at h
    · rename_i e1 e2; (try simp only [opd_mono H e1, e2]); exact h
    · simp at h
  · split at h
    · rename_i e1 e2 e3; (try simp only [opd_mono H e1, opd_mono H e2, e3]); exact h
    · rename_i e1 e2 e3; (try simp only [opd_mono H e1, opd_mono H e2, e3]); exact h
    · simp at h
  · split at h
    · rename_i e1; (try simp only [opd_mono H e1]); exact h
    · simp at h
  · split at h
    · rename_i e1; (try simp only [parts_mono H e1]); exact buildA_mono H h
    · simp at h
  · split at h
    · split at h
      · rename_i e1 e2
        (try simp only [e1, e2])
        split at h
        · rename_i e3
          simp only [opd_mono H e3]
          simp only [Option.map_eq_some_iff] at h ⊢
          obtain ⟨n, hn, rfl⟩ := h
          exact ⟨n, lenA_mono H hn, rfl⟩
        · simp at h
      · simp at h
    · split at h
      · rename_i e1
        (try simp only [e1])
        split at h
        · rename_i d1 d2; (try simp only [opd_mono H d1, opd_mono H d2]); exact h
        · simp at h
      · simp at h
    · split at h
      · rename_i e1
        (try simp only [e1])
        split at h
        · rename_i d1 d2; (try simp only [opd_mono H d1, opd_mono H d2]); exact h
        · simp at h
      · simp at h
    · simp at h
  · simp at h
theorem frzL_mono {f g : V → Option Fix} (hfg : ∀ v r, f v = some r → g v = some r) : ∀ {vs : List V} {r : List Nat × Bool × List FV}, frzL f vs = some r → frzL g vs = some r
  | [], r, h => by simpa [frzL] using h
  | v :: vs, r, h => by
    simp only [frzL] at h ⊢
    split at h
    · rename_i e1 e2
      simp only [hfg _ _ e1, frzL_mono hfg e2]; exact h
    · simp at h
theorem frz_mono (H : Le σ τ) : ∀ (n : Nat) {v : V} {r : Fix}, frz σ n v = some r → frz τ n v = some r
  | 0, v, r, h => by simp [frz] at h
  | n + 1, v, r, h => by
    have ih : ∀ v r, frz σ n v = some r → frz τ n v = some r := fun v r => frz_mono H n
    unfold frz at h ⊢
    split at h
    · exact h
    · split at h
      · rename_i hb; (try simp only [H.2 _ _ hb]); exact h
      · simp at h
    · split at h
      · rename_i hb; (try simp only [H.2 _ _ hb]); exact h
      · simp at h
    · split at h
      · rename_i hb; (try simp only [H.2 _ _ hb])
        split at h
        · rename_i e
          (try simp only [e])
          split at h
          · rename_i e1 e2; (try simp only [frzL_mono ih e1, frzL_mono ih e2]); exact h
          · simp at h
        · rename_i e
          (try simp only [e])
          split at h
          · rename_i e1; (try simp only [frzL_mono ih e1]); exact h
          · simp at h
      · simp at h
    · split at h
      · rename_i e1; (try simp only [frzL_mono ih e1]); exact h
      · simp at h
    · split at h
      · rename_i e1 e2; (try simp only [frzL_mono ih e1, frzL_mono ih e2]); exact h
      · simp at h
    · simp at h
theorem argsA_mono (H : Le σ τ) : ∀ {vs : List V} {xs : List (Bool × FV)}, argsA σ vs = some xs → argsA τ vs = some xs
  | [], xs, h => by simpa [argsA] using h
  | v :: r, xs, h => by
    simp only [argsA] at h ⊢
    split at h
    · rename_i e1 e2
      simp only [frz_mono H _ e1, argsA_mono H e2]; exact h
    · simp at h
theorem elemA_mono (H : Le σ τ) {v : V} {r : List Nat × FV} (h : elemA σ v = some r) : elemA τ v = some r := by
  unfold elemA at h ⊢
  split at h
  · rename_i e1; (try simp only [frz_mono H _ e1]); exact h
  · simp at h
theorem elemsA_mono (H : Le σ τ) : ∀ {vs : List V} {r : List Nat × List FV}, elemsA σ vs = some r → elemsA τ vs = some r
  | [], r, h => by simpa [elemsA] using h
  | v :: vs, r, h => by
    simp only [elemsA] at h ⊢
    split at h
    · rename_i e1 e2
      simp only [elemA_mono H e1, elemsA_mono H e2]; exact h
    · simp at h
theorem guardA_mono (H : Le σ τ) {ops : List Oper} {o : Oper} {b : Bool} (h : guardA ops σ o = some b) : guardA ops τ o = some b := by
  unfold guardA at h ⊢
  split at h
  · rename_i e; (try simp only [e]); exact h
  · rename_i e; (try simp only [e])
    split at h
    · rename_i e1; (try simp only [e1])
      split at h
      · rename_i e2; (try simp only [e2])
        split at h
        · rename_i e3; (try simp only [opd_mono H e3]); exact h
        · rename_i e3; (try simp only [opd_mono H e3]); exact h
        · simp at h
      · simp at h
    · simp at h
end
end Go.Proofs.Ytoafhoihigfllaa.E
