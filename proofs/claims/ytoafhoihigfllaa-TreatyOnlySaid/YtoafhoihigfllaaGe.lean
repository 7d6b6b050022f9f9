/-
  The engine, part 3e: what has been said of functions, gathered: families of contracts. Conditions: none.
-/
import Derived.Test.YtoafhoihigfllaaGd
namespace Go.Proofs.Ytoafhoihigfllaa.E
open Go Go.RowKit
set_option linter.unusedVariables false
/-- What is said of a function at arguments of a form. -/
structure Fam (P : Program) where
  k : FuncId
  α : Type
  f : α → List (Bool × FV)
  g : α → List TV
  inj : ∀ a b, f a = f b → g a = g b
  ok : ∀ a, Valid P k (f a) (g a)
  en : Enters P k
section
variable {P : Program}
open Classical in
noncomputable def famAt (F : Fam P) (xs : List (Bool × FV)) : Option (List TV) := if h : ∃ a, F.f a = xs then some (F.g (Classical.choose h)) else none
noncomputable def famCtx : List (Fam P) → FuncId → List (Bool × FV) → Option (List TV)
  | [], _, _ => none
  | F :: r, k, xs => if F.k = k then famAt F xs else famCtx r k xs
theorem famAt_hit (F : Fam P) (a : F.α) : famAt F (F.f a) = some (F.g a) := by
  unfold famAt
  have h : ∃ b, F.f b = F.f a := ⟨a, rfl⟩
  rw [dif_pos h]
  exact congrArg some (F.inj _ _ (Classical.choose_spec h))
theorem famAt_ok {F : Fam P} {xs : List (Bool × FV)} {res : List TV} (h : famAt F xs = some res) : Valid P F.k xs res ∧ Enters P F.k := by
  unfold famAt at h
  split at h
  · rename_i he
    simp only [Option.some.injEq] at h; subst h
    have hs := Classical.choose_spec he
    refine ⟨?_, F.en⟩
    have := F.ok (Classical.choose he)
    rw [hs] at this
    exact this
  · cases h
theorem fam_ok : ∀ {L : List (Fam P)} {k : FuncId} {xs : List (Bool × FV)} {res : List TV}, famCtx L k xs = some res → Valid P k xs res ∧ Enters P k
  | [], _, _, _, h => by simp [famCtx] at h
  | F :: r, k, xs, res, h => by
    simp only [famCtx] at h
    split at h
    · rename_i e; subst e; exact famAt_ok h
    · exact fam_ok h
theorem fam_hit {F : Fam P} {r : List (Fam P)} {k : FuncId} {xs : List (Bool × FV)} {res : List TV} (a : F.α) (hk : F.k = k) (hf : F.f a = xs) (hg : F.g a = res) : famCtx (F :: r) k xs = some res := by
  subst hk hf hg
  simp only [famCtx, if_true]
  exact famAt_hit F a
theorem fam_at : ∀ {L : List (Fam P)} {F : Fam P} {k : FuncId} {xs : List (Bool × FV)} {res : List TV} (h : L.find? (fun G => G.k == k) = some F) (a : F.α) (hf : F.f a = xs) (hg : F.g a = res), famCtx L k xs = some res
  | [], F, k, xs, res, h, _, _, _ => by simp at h
  | G :: r, F, k, xs, res, h, a, hf, hg => by
    simp only [List.find?_cons] at h
    split at h
    · rename_i hk
      simp only [Option.some.injEq] at h; subst h
      exact fam_hit a (by simpa using hk) hf hg
    · rename_i hk
      simp only [famCtx]
      rw [if_neg (by simpa using hk)]
      exact fam_at h a hf hg
theorem fam_skip {F : Fam P} {r : List (Fam P)} {k : FuncId} {xs : List (Bool × FV)} {o : Option (List TV)} (hk : (F.k == k) = false) (h : famCtx r k xs = o) : famCtx (F :: r) k xs = o := by
  simp only [famCtx]
  rw [if_neg (by simpa using hk)]
  exact h
end
theorem ints_inj {l m : List Int} : ints l = ints m ↔ l = m := by
  constructor
  · intro h
    induction l generalizing m with
    | nil => cases m with
      | nil => rfl
      | cons y m => simp at h
    | cons x l ih => cases m with
      | nil => simp at h
      | cons y m =>
        simp only [ints_cons, List.cons.injEq, FV.int.injEq, true_and] at h
        obtain ⟨h1, h2⟩ := h
        rw [h1, ih h2]
  · rintro rfl; rfl
section
variable {P : Program}
theorem IsT_int {n t : Nat} {k : IntKind} {fs : List FV} (ht : P.underlying t = some (.int k)) (h : IsT P (n + 1) t fs) : ∃ m, fs = [.int k m] := by
  have h := h.h
  simp only [FVT, ht] at h
  exact h
theorem IsT_list {n t e : Nat} {fs : List FV} (ht : P.underlying t = some (.slice e)) (h : IsT P (n + 1) t fs) : ∃ xs : List FV, fs = [.sl false (P.cellsOf e) xs] ∧ xs.length * P.bytesOf e ≤ reachBytes ∧ ∀ x ∈ xs, (isStruct P e = true ∧ ∃ gs, x = .agg gs ∧ IsT P n e gs) ∨ (isStruct P e = false ∧ IsT P n e [x]) := by
  have h := h.h
  simp only [FVT, ht] at h
  obtain ⟨xs, h1, h2, h3⟩ := h
  refine ⟨xs, h1, h2, fun x hx => ?_⟩
  have h4 := h3 x hx
  cases hs : isStruct P e with
  | true =>
    rw [if_pos hs] at h4
    obtain ⟨gs, e1, e2⟩ := h4
    exact .inl ⟨rfl, gs, e1, ⟨e2⟩⟩
  | false =>
    rw [if_neg (by simp [hs])] at h4
    exact .inr ⟨rfl, ⟨h4⟩⟩
theorem IsT_ints {n t e : Nat} {fs : List FV} (ht : P.underlying t = some (.slice e)) (he : P.underlying e = some (.int .i64)) (hc : P.cellsOf e = 1) (hb : P.bytesOf e = 8) (h : IsT P (n + 2) t fs) : ∃ l, fs = [.sl false 1 (ints l)] ∧ l.length < 2^62 := by
  obtain ⟨xs, rfl, hl, hx⟩ := IsT_list ht h
  have hs : isStruct P e = false := by simp [isStruct, he]
  have hx' : ∀ x ∈ xs, ∃ m, x = .int .i64 m := fun x hm => by
    rcases hx x hm with ⟨h1, _⟩ | ⟨_, h1⟩
    · rw [hs] at h1; cases h1
    · obtain ⟨m, hm⟩ := IsT_int he h1
      exact ⟨m, by simpa using hm⟩
  have key : ∃ l, xs = ints l := by
    clear hl hx h
    induction xs with
    | nil => exact ⟨[], rfl⟩
    | cons x r ih =>
      obtain ⟨l, hl⟩ := ih fun y hy => hx' y (List.mem_cons_of_mem _ hy)
      obtain ⟨m, hm⟩ := hx' x List.mem_cons_self
      exact ⟨m :: l, by rw [hm, hl]; rfl⟩
  obtain ⟨l, rfl⟩ := key
  refine ⟨l, by rw [hc], ?_⟩
  rw [hb, ints_length, reachBytes] at hl
  omega
theorem IsT_pair {n t : Nat} {f0 f1 : Field} {fs : List FV} (ht : P.underlying t = some (.struct #[f0, f1])) (h : IsT P (n + 1) t fs) : ∃ g0 g1, fs = g0 ++ g1 ∧ IsT P n f0.type g0 ∧ IsT P n f1.type g1 := by
  have h := h.h
  simp only [FVT, ht] at h
  obtain ⟨gss, hl, rfl, hf⟩ := h
  match gss, hl with
  | [g0, g1], _ => exact ⟨g0, g1, by simp, ⟨hf 0 f0 g0 rfl rfl⟩, ⟨hf 1 f1 g1 rfl rfl⟩⟩
theorem ArgsT_one {n t : Nat} {xs : List FV} (h : ArgsT P n [t] xs) : ∃ fs, xs = [argFV P t fs] ∧ IsT P n t fs := by
  obtain ⟨fs, ys, h0, h1, h2⟩ := h
  have h2 : ys = [] := h2
  exact ⟨fs, by rw [h0, h2], h1⟩
theorem argFV_struct {t : Nat} (h : isStruct P t = true) (fs : List FV) : argFV P t fs = .agg fs := if_pos h
theorem argFV_one {t : Nat} (h : isStruct P t = false) (x : FV) : argFV P t [x] = x := by simp [argFV, h]
end
end Go.Proofs.Ytoafhoihigfllaa.E
