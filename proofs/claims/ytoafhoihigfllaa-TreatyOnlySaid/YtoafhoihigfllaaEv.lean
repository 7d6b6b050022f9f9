/-
  The engine, part v: a range over a function: the loop's own side. Conditions: none; it is stated of any program and table of its types.
-/
import Derived.Test.YtoafhoihigfllaaEp
import Derived.RangeFuncRecord
namespace Go.Proofs.Ytoafhoihigfllaa.E
open Go Go.RowKit
set_option linter.unusedVariables false

theorem hi_le {t : Nat} (h : hi t = true) : GH ≤ t := by
  unfold GH; simpa using h
theorem GH_eq : GH = 100000000 := by unfold GH; rfl
theorem lk_up : ∀ {l : List (Nat × V)} {k : Nat} {v : V}, lk k (upEnv l) = some v → GH ≤ k ∧ lk (k - GH) l = some v
  | [], k, v, h => by simp [upEnv, lk] at h
  | (j, u) :: r, k, v, h => by
    rw [upEnv, ← GH_eq] at h
    simp only [lk] at h ⊢
    split at h
    · rename_i e; subst e
      exact ⟨by omega, by rw [if_pos (by omega)]; exact h⟩
    · rename_i e
      obtain ⟨h1, h2⟩ := lk_up h
      exact ⟨h1, by rw [if_neg (by omega)]; exact h2⟩
theorem lk_dn : ∀ {l : List (Nat × V)} {k : Nat} {v : V}, lk k (dnEnv l) = some v → lk (k + GH) l = some v
  | [], k, v, h => by simp [dnEnv, lk] at h
  | (j, u) :: r, k, v, h => by
    rw [dnEnv, ← GH_eq] at h
    simp only [lk]
    split at h
    · rename_i hj
      have hj := hi_le hj
      simp only [lk] at h
      split at h
      · rename_i e; subst e; rw [if_pos (by omega)]; exact h
      · rename_i e; rw [if_neg (by omega)]; exact lk_dn h
    · rename_i hj
      have hj := hi_lt hj
      rw [if_neg (by omega)]; exact lk_dn h
theorem lk_lo : ∀ {l : List (Nat × V)} {k : Nat} {v : V}, lk k (loEnv l) = some v → k < GH ∧ lk k l = some v
  | [], k, v, h => by simp [loEnv, lk] at h
  | (j, u) :: r, k, v, h => by
    simp only [loEnv] at h
    simp only [lk]
    split at h
    · rename_i hj
      have hj := hi_le hj
      obtain ⟨h1, h2⟩ := lk_lo h
      exact ⟨h1, by rw [if_neg (by omega)]; exact h2⟩
    · rename_i hj
      have hj := hi_lt hj
      simp only [lk] at h
      split at h
      · rename_i e; subst e; exact ⟨hj, by rw [if_pos rfl]; exact h⟩
      · rename_i e; obtain ⟨h1, h2⟩ := lk_lo h; exact ⟨h1, by rw [if_neg e]; exact h2⟩
theorem lk_append {α : Type} {k : Nat} {v : α} : ∀ {l r : List (Nat × α)}, lk k (l ++ r) = some v → lk k l = some v ∨ lk k r = some v
  | [], r, h => .inr h
  | (j, u) :: l, r, h => by
    simp only [List.cons_append, lk] at h ⊢
    split at h
    · rename_i e; rw [if_pos e]; exact .inl h
    · rename_i e; rw [if_neg e]; exact lk_append h
theorem lk_enter {σ : St} {k : Nat} {v : V} (h : lk k σ.enter.env = some v) : (k < GH ∧ lk k σ.env = some v) ∨ (GH ≤ k ∧ lk (k - GH) σ.env = some v) := by
  rcases lk_append h with h | h
  · exact .inl (lk_lo h)
  · exact .inr (lk_up h)

/-- The frame around a round, as a base: what it may change is what is its own there. -/
def Base.inner (C : Base) (M : Nat → Prop) (σ : St) (a : Act) (W : World) (μ : Mu) (Fz Fy : Nat → Prop) (l : Nat) : Base :=
  { N := C.N, B := W.heap.size, w0 := W, Fz0 := Fz, X := fun b => (∃ s, lk s σ.blk ≠ none ∧ ∃ base, μ s = some (b, base)) ∨ M b, Fy0 := Fy, M := M, yl := C.yl, rd := some l, out := fun k => C.get a (k - GH) }
theorem BelowX.refl (C : Base) (h : C.B ≤ C.w0.heap.size) : BelowX C C.w0 := ⟨rfl, rfl, rfl, Nat.le_refl _, fun _ _ _ => rfl, fun k c e fr _ _ h => ⟨c, h, rfl⟩⟩
theorem Sim.enter {C : Base} {M : Nat → Prop} {σ : St} {a : Act} {W : World} {μ : Mu} {Fz Fy : Nat → Prop} (h : Sim (C.withM M) σ a W μ Fz Fy) {l : Nat} {r : Loop} (hl : W.heap[l]? = some (.loop r)) (hX : ∀ s, lk s σ.blk ≠ none → ∀ base, μ s ≠ some (l, base)) (hM : ¬ M l) :
    Sim (C.inner M σ a W μ Fz Fy l) σ.enter { tmps := a.tmps, defers := [] } W μ Fz Fy := by
  have hlt : l < W.heap.size := (Array.getElem?_eq_some_iff.1 hl).1
  refine { defers := fun d hd => by simp at hd, dist := .nil, size := h.size, small := h.small, env := fun k v hk => ⟨trivial, ?_⟩, blk := h.blk, live := fun s hs b base hm => ⟨.inr (.inl ⟨s, hs, base, hm⟩), (h.live s hs b base hm).2⟩, inj := h.inj, zy := h.zy, yl := h.yl, z0 := fun b hb => .inl hb, y0 := fun b hb => .inl hb, below := BelowX.refl _ (Nat.le_refl _), big := Nat.le_refl _, fm := h.fm, mm := fun b hb => .inr (.inr hb), yd := fun y hy => ?_, lp := fun l' hl' => ?_ }
  · rcases lk_enter hk with ⟨h1, h2⟩ | ⟨h1, h2⟩
    · have := (h.env k v h2).2
      rw [Base.get, if_pos h1] at this ⊢
      exact this
    · have := (h.env (k - GH) v h2).2
      rw [show (C.inner M σ a W μ Fz Fy l).get { tmps := a.tmps, defers := [] } k = C.get a (k - GH) from by rw [Base.get, if_neg (by omega)]; rfl]
      exact this
  · obtain ⟨y1, y2, y3, y4, y5⟩ := h.yd y hy
    refine ⟨y1, y2, Nat.le_trans y3 h.big, fun b hlt hb => ?_, fun b hb => .inr (.inr hb)⟩
    rcases hb with ⟨s, hs, base, hm⟩ | hb
    · rcases (h.live s hs b base hm).1 with h1 | h1
      · exact absurd h1 (by have : (C.withM M).B = C.B := rfl; omega)
      · exact y4 b hlt h1
    · exact hb
  · have e : l = l' := by simpa [Base.inner] using hl'
    subst e
    exact ⟨hlt, fun hx => hx.elim (fun ⟨s, hs, base, hm⟩ => hX s hs base hm) hM, r, hl⟩
/-- The parameters are put. -/
def putAll (a : Act) : List Nat → List Value → Act
  | p :: ps, v :: vs => putAll (a.put (some p) v) ps vs
  | _, _ => a
theorem Sim.bind {C : Base} {W : World} {μ : Mu} {Fz Fy : Nat → Prop} : ∀ {ps : List Nat} {xs : List FV} {us : List Value} {σ : St} {a : Act} {env : List (Nat × V)}, Sim C σ a W μ Fz Fy → bindP C.N ps xs σ.env = some env → us.length = xs.length →
    (∀ (j : Nat) (z : FV), xs[j]? = some z → ∃ u, us[j]? = some u ∧ RepF (fun _ => False) W z u) → Sim C { σ with env := env } (putAll a ps us) W μ Fz Fy
  | [], [], us, σ, a, env, h, hb, hl, hr => by
    simp only [bindP, Option.some.injEq] at hb; subst hb
    exact h
  | p :: ps, x :: xs, u :: us, σ, a, env, h, hb, hl, hr => by
    simp only [bindP] at hb
    split at hb
    · rename_i hp
      obtain ⟨u', hu, hr0⟩ := hr 0 x rfl
      simp only [List.getElem?_cons_zero, Option.some.injEq] at hu; subst hu
      have h1 := h.set p hp (.fv false x) u (.fv _ _ _ (hr0.mono (fun _ x => x.elim) (fun _ x => x.elim)))
      rw [putAll]
      exact Sim.bind (ps := ps) (xs := xs) (us := us) (σ := { σ with env := put p (.fv false x) σ.env }) (a := a.put (some p) u) h1 hb (by simpa using hl) fun j z hj => by simpa using hr (j + 1) z (by simpa using hj)
    · simp at hb
  | _ :: _, _ :: _, [], _, _, _, _, _, hl, _ => by simp at hl
  | [], _ :: _, _, _, _, _, _, hb, _, _ => by simp [bindP] at hb
  | _ :: _, [], _, _, _, _, _, hb, _, _ => by simp [bindP] at hb
theorem putAll_tmps : ∀ (ps : List Nat) (vs : List Value) (a : Act), (putAll a ps vs).tmps = (ps.zip vs).foldl (fun t (p, v) => t.setIfInBounds p v) a.tmps ∧ (putAll a ps vs).defers = a.defers
  | [], vs, a => by simp [putAll]
  | p :: ps, [], a => by simp [putAll]
  | p :: ps, v :: vs, a => by
    obtain ⟨h1, h2⟩ := putAll_tmps ps vs (a.put (some p) v)
    exact ⟨by rw [putAll, h1]; rfl, by rw [putAll, h2]; rfl⟩
end Go.Proofs.Ytoafhoihigfllaa.E
