/-
  The chapter of the treaty, the plain law of the quota: what the shares are like. Conditions: none.
-/
import Derived.Test.YtoafhoihigfllaaTx
namespace Go.Proofs.Ytoafhoihigfllaa.E
open Go Go.RowKit
set_option linter.unusedVariables false
def sp (n : Int) : Int → List Int → List Int
  | _, [] => []
  | left, r :: t => if 0 < left ∧ n < r then (minI r n + 1) :: sp n (left - 1) t else minI r n :: sp n left t
theorem spread_sp (n : Int) : ∀ (l : List Int) (acc : List Int) (left : Int), (l.foldl (spreadStep n) (acc, left)).1 = acc ++ sp n left l
  | [], acc, left => by simp [sp]
  | r :: t, acc, left => by
    simp only [List.foldl_cons, spreadStep, sp]
    split
    · rw [spread_sp n t]; simp
    · rw [spread_sp n t]; simp
def cnt (n : Int) (l : List Int) : Int := (l.countP fun r => decide (n < r) : Nat)
theorem cnt_cons (n r : Int) (t : List Int) : cnt n (r :: t) = cnt n t + if n < r then 1 else 0 := by
  simp only [cnt, List.countP_cons]
  split <;> split <;> simp_all
theorem cnt_nonneg (n : Int) (l : List Int) : 0 ≤ cnt n l := by simp [cnt]
theorem psum_succ (n : Int) : ∀ l : List Int, psum l (n + 1) = psum l n + cnt n l
  | [] => by simp [psum, cnt]
  | r :: t => by
    have ih := psum_succ n t
    rw [cnt_cons]
    simp only [psum, List.map_cons, List.sum_cons] at ih ⊢
    have : minI r (n + 1) = minI r n + if n < r then 1 else 0 := by unfold minI; split <;> split <;> omega
    omega
theorem sp_sum (n : Int) : ∀ (l : List Int) (left : Int), 0 ≤ left → left ≤ cnt n l → (sp n left l).sum = psum l n + left
  | [], left, h0, h1 => by simp [cnt] at h1; simp [sp, psum]; omega
  | r :: t, left, h0, h1 => by
    rw [cnt_cons] at h1
    simp only [sp]
    split
    · rename_i h
      have ih := sp_sum n t (left - 1) (by omega) (by rw [if_pos h.2] at h1; omega)
      simp only [psum, List.map_cons, List.sum_cons] at ih ⊢
      omega
    · rename_i h
      have hc := cnt_nonneg n t
      have ih := sp_sum n t left h0 (by
        split at h1
        · rename_i h2; have : ¬ 0 < left := fun h3 => h ⟨h3, h2⟩; omega
        · omega)
      simp only [psum, List.map_cons, List.sum_cons] at ih ⊢
      omega
theorem sp_length (n : Int) : ∀ (l : List Int) (left : Int), (sp n left l).length = l.length
  | [], _ => rfl
  | r :: t, left => by
    simp only [sp]
    split <;> simp [sp_length n t]
theorem sp_get (n : Int) : ∀ (l : List Int) (left : Int) (i : Nat) (a : Int), (sp n left l)[i]? = some a → ∃ r, l[i]? = some r ∧ minI r n ≤ a ∧ a ≤ minI r (n + 1)
  | [], _, i, a, h => by simp [sp] at h
  | r :: t, left, i, a, h => by
    simp only [sp] at h
    split at h
    · rename_i hc
      cases i with
      | zero =>
        simp only [List.getElem?_cons_zero, Option.some.injEq] at h; subst h
        exact ⟨r, rfl, by omega, by have := hc.2; unfold minI; split <;> split <;> omega⟩
      | succ i => simpa using sp_get n t _ i a (by simpa using h)
    · cases i with
      | zero =>
        simp only [List.getElem?_cons_zero, Option.some.injEq] at h; subst h
        exact ⟨r, rfl, by omega, minI_mono (by omega)⟩
      | succ i => simpa using sp_get n t _ i a (by simpa using h)
theorem sp_mono (n : Int) : ∀ (l : List Int) (left left' : Int), left ≤ left' → ∀ (i : Nat) (a b : Int), (sp n left l)[i]? = some a → (sp n left' l)[i]? = some b → a ≤ b
  | [], _, _, _, i, a, b, h, _ => by simp [sp] at h
  | r :: t, left, left', hle, i, a, b, h, h' => by
    simp only [sp] at h h'
    split at h <;> split at h'
    · cases i with
      | zero => simp only [List.getElem?_cons_zero, Option.some.injEq] at h h'; omega
      | succ i => exact sp_mono n t (left - 1) (left' - 1) (by omega) i a b (by simpa using h) (by simpa using h')
    · rename_i h1 h2; exact absurd ⟨by omega, h1.2⟩ h2
    · rename_i h1 h2
      cases i with
      | zero => simp only [List.getElem?_cons_zero, Option.some.injEq] at h h'; omega
      | succ i =>
        refine sp_mono n t left (left' - 1) ?_ i a b (by simpa using h) (by simpa using h')
        have : ¬ 0 < left := fun h3 => h1 ⟨h3, h2.2⟩
        omega
    · cases i with
      | zero => simp only [List.getElem?_cons_zero, Option.some.injEq] at h h'; omega
      | succ i => exact sp_mono n t _ _ hle i a b (by simpa using h) (by simpa using h')
theorem lvl_level {q : Int} {l : List Int} (h : okClaims q l = true) : IsLevel q l (lvl q l) := by
  obtain ⟨h1, h2, h3, h4⟩ := ok_facts h
  have hz : sumAt l 0 ≤ q := by
    rw [sumAt_eq h (by omega), psum_zero fun x hx => (h2 x hx).1]
    exact h3
  exact bis_level 100001 (by omega) (by omega) (by omega) (by omega) hz (.inl rfl)
/-- What the shares are like. -/
structure Fair (q : Int) (l s : List Int) (n : Int) : Prop where
  len : s.length = l.length
  sum : s.sum = q
  get : ∀ (i : Nat) (a : Int), s[i]? = some a → ∃ r, l[i]? = some r ∧ minI r n ≤ a ∧ a ≤ minI r (n + 1)
theorem sum_le : ∀ {m : List Int}, (∀ x ∈ m, x ≤ 100000) → m.sum ≤ m.length * 100000
  | [], _ => by simp
  | x :: r, h => by
    have h1 := h x List.mem_cons_self
    have h2 := sum_le fun y hy => h y (List.mem_cons_of_mem _ hy)
    simp only [List.sum_cons, List.length_cons]
    omega
theorem psum_all : ∀ {m : List Int}, (∀ x ∈ m, x ≤ 100000) → psum m 100000 = m.sum
  | [], _ => by simp [psum]
  | x :: r, h => by
    have h1 := h x List.mem_cons_self
    have h2 := psum_all fun y hy => h y (List.mem_cons_of_mem _ hy)
    simp only [psum, List.map_cons, List.sum_cons] at h2 ⊢
    have : minI x 100000 = x := by unfold minI; split <;> omega
    omega
theorem sumI_eq {m : List Int} (h8 : m.length ≤ 8) (h : ∀ x ∈ m, 0 ≤ x ∧ x ≤ 100000) : sumI m = m.sum := by
  have := foldl_sum m 0 (by omega) h (by omega)
  simp only [sumI]
  rw [this]; omega
theorem shares_sp {q : Int} {l : List Int} (h : okClaims q l = true) : sharesA q l = sp (lvl q l) (q - psum l (lvl q l)) l ∧ 0 ≤ q - psum l (lvl q l) ∧ q - psum l (lvl q l) ≤ cnt (lvl q l) l := by
  obtain ⟨h1, h2, h3, h4⟩ := ok_facts h
  obtain ⟨a1, a2, a3, a4⟩ := lvl_level h
  have e0 : sumAt l (lvl q l) = psum l (lvl q l) := sumAt_eq h a1
  have hs := sumI_eq h1 h2
  have hb := sum_le fun x hx => (h2 x hx).2
  have hp := psum_mono (show (0 : Int) ≤ lvl q l from a1) l
  have hz := psum_zero fun x hx => (h2 x hx).1
  refine ⟨?_, by omega, ?_⟩
  · rw [sharesA, if_pos h, sharesOf, e0, spread, spread_sp, wrap_id (by omega) (by omega)]
    rfl
  · rcases a4 with a4 | a4
    · have ha := psum_all fun x hx => (h2 x hx).2
      have hc := cnt_nonneg (lvl q l) l
      rw [a4] at hc ⊢
      omega
    · rw [sumAt_eq h (by omega), psum_succ] at a4
      omega
theorem shares_fair {q : Int} {l : List Int} (h : okClaims q l = true) : Fair q l (sharesA q l) (lvl q l) := by
  obtain ⟨e, h0, h1⟩ := shares_sp h
  rw [e]
  refine ⟨sp_length _ _ _, ?_, sp_get _ _ _⟩
  rw [sp_sum _ _ _ h0 h1]; omega
/-- With one more in the quota nobody gets less. -/
theorem shares_more {q : Int} {l : List Int} (h : okClaims q l = true) (h' : okClaims (q + 1) l = true) {i : Nat} {a b : Int} (ha : (sharesA q l)[i]? = some a) (hb : (sharesA (q + 1) l)[i]? = some b) : a ≤ b := by
  obtain ⟨e, h0, h1⟩ := shares_sp h
  obtain ⟨e', h0', h1'⟩ := shares_sp h'
  obtain ⟨a1, a2, a3, a4⟩ := lvl_level h
  obtain ⟨b1, b2, b3, b4⟩ := lvl_level h'
  rw [e] at ha
  rw [e'] at hb
  by_cases hn : lvl (q + 1) l = lvl q l
  · rw [hn] at hb
    exact sp_mono _ _ _ _ (by omega) i a b ha hb
  · have hlt : lvl q l + 1 ≤ lvl (q + 1) l := by
      rcases b4 with b4 | b4
      · omega
      · by_cases hlt : lvl (q + 1) l < lvl q l
        · rw [sumAt_eq h a1] at a3
          rw [sumAt_eq h (by omega)] at b4
          have := psum_mono (show lvl (q + 1) l + 1 ≤ lvl q l by omega) l
          omega
        · omega
    obtain ⟨r, hr, r1, r2⟩ := sp_get _ _ _ i a ha
    obtain ⟨r', hr', s1, s2⟩ := sp_get _ _ _ i b hb
    rw [hr] at hr'
    simp only [Option.some.injEq] at hr'; subst hr'
    have := minI_mono (x := r) hlt
    omega
end Go.Proofs.Ytoafhoihigfllaa.E
