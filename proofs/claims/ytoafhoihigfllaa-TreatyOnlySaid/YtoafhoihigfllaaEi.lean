/-
  The engine, part i: operations that make a block: a variable, a struct in memory, a slice of given elements, make. Conditions: none; it is stated of any program and table of its types.
-/
import Derived.Test.YtoafhoihigfllaaEh
namespace Go.Proofs.Ytoafhoihigfllaa.E
open Go Go.RowKit
set_option linter.unusedVariables false

def St.mk' (σ : St) (d : Nat) (b : Blk) (out : V) : St :=
  { (σ.drop d).kill [d] with env := put d out ((σ.drop d).kill [d]).env, blk := put d b ((σ.drop d).kill [d]).blk }
section
variable {C : Base} {σ : St} {a : Act} {w w' : World} {μ : Mu} {Fz Fy : Nat → Prop} {G : Pg}
theorem Stays.sub {σ' : St} (h : Stays C σ w w' μ Fy) (hs : ∀ s, lk s σ'.blk ≠ none → lk s σ.blk ≠ none) : Stays C σ' w w' μ Fy :=
  { h with own := fun s hs' => h.own s (hs s hs') }
theorem blk_mk (d : Nat) (b : Blk) (out : V) (t : Nat) : lk t (σ.mk' d b out).blk = if t = d then some b else (lk t σ.blk).map (killB [d]) := by
  simp only [St.mk', lk_put]
  split
  · rfl
  · rename_i e
    simp [St.kill, St.drop, lk_map, lk_rm, e]
theorem shs_mk (d : Nat) (b : Blk) (out : V) (t : Nat) : shs (σ.mk' d b out) t = if t = d then some (shp b) else shs σ t := by
  simp only [shs, blk_mk]
  split
  · rfl
  · cases lk t σ.blk with
    | none => rfl
    | some x => simp [shp_killB]
theorem pres_dk {d t : Nat} (ht : lk t ((σ.drop d).kill [d]).blk ≠ none) : t ≠ d ∧ lk t σ.blk ≠ none := by
  simp only [St.kill, lk_map, St.drop, lk_rm] at ht
  by_cases e : t = d
  · simp [e] at ht
  · refine ⟨e, fun h => ?_⟩
    simp [e, h] at ht
theorem RepV.later (h : Sim C σ a w μ Fz Fy) {d : Nat} (hd : d < C.N) (hw : Stays C σ w w' μ Fy) {m : Option (Nat × Nat)} {b : Blk} {out x : V} {v : Value} (hx : ∃ n, ment n d x = false) (hv : RepV μ (shs σ) Fz Fy w x v) :
    RepV (setMu μ d m) (shs (σ.mk' d b out)) Fz Fy w' x v :=
  hv.mono (fun _ x => x) (fun _ x => x) (fun b x => hw.fixed b (h.zy b x)) hw.fixed hw.keeps (fun t => t = d) (fun t ht => .inr ⟨by rw [shs_mk, if_neg ht], by simp [setMu, ht]⟩) (fun l hl => by simp only [setMu, if_neg (Ne.symm (ne_YN h.small hd))]; exact hl) (fun t ht => by subst ht; exact hx)
theorem Sim.made (h : Sim C σ a w μ Fz Fy) {d : Nat} (hd : d < C.N) (hw : Stays C σ w w' μ Fy) (m : Option (Nat × Nat)) (b : Blk) (out : V) (v : Value)
    (hm : ∀ r base, m = some (r, base) → C.mine r ∧ r < w'.heap.size ∧ (¬ Fy r ∧ ¬ C.M r) ∧ ∀ t, t ≠ d → lk t σ.blk ≠ none → ∀ r' base', μ t = some (r', base') → r' ≠ r)
    (hb : RepB (setMu μ d m) (shs (σ.mk' d b out)) Fz Fy w' d b) (hv : RepV (setMu μ d m) (shs (σ.mk' d b out)) Fz Fy w' out v) : Sim C (σ.mk' d b out) (a.put (some d) v) w' (setMu μ d m) Fz Fy := by
  have h1 := ((h.drop d).kill [d]).stays (w' := w') (hw.sub fun s hs => (pres_dk hs).2)
  have h2 := h1.name d (ne_YN h.small hd) (St.free_kill (σ.drop d) [d] (by simp)) m b (fun r base hr => by
    obtain ⟨k1, k2, k3, k4⟩ := hm r base hr
    exact ⟨k1, k2, k3, fun t ht hp => k4 t ht (pres_dk hp).2⟩) hb
  exact h2.set d hd out v hv

/-- A block of a new number: nobody has it. -/
theorem new_free (h : Sim C σ a w μ Fz Fy) {d : Nat} (o : Obj) : ∀ r base, some (w.heap.size, (0 : Nat)) = some (r, base) → C.mine r ∧ r < (w.alloc o).heap.size ∧ (¬ Fy r ∧ ¬ C.M r) ∧ ∀ t, t ≠ d → lk t σ.blk ≠ none → ∀ r' base', μ t = some (r', base') → r' ≠ r := by
  intro r base hr
  simp only [Option.some.injEq, Prod.mk.injEq] at hr
  obtain ⟨rfl, rfl⟩ := hr
  refine ⟨.inl h.big, by show w.heap.size < (w.heap.push o).size; simp, ⟨fun hy => absurd (h.yl _ hy) (by omega), fun hy => absurd (h.fm _ hy).1 (by omega)⟩, fun t ht hp r' base' hm => ?_⟩
  have := (h.live t hp r' base' hm).2.1
  omega
theorem stays_alloc (h : Sim C σ a w μ Fz Fy) (o : Obj) : Stays C σ w (w.alloc o) μ Fy := Stays.of_below h ((Below.refl _ w).alloc (Nat.le_refl _) o)
theorem heap_new (w : World) (o : Obj) : (w.alloc o).heap[w.heap.size]? = some o := by show (w.heap.push o)[w.heap.size]? = some o; simp

def allocA (G : Pg) (σ : St) (d t : Nat) : Option St :=
  match lk t G.tbl with
  | some ti => some (σ.mk' d (.box (ti.zero.map (.fv false))) (.ptr d 0))
  | none => none
theorem allocA_sound (hT : TOk G) (h : Sim C σ a w μ Fz Fy) {d t : Nat} (hd : d < C.N) {σ' : St} (hs : allocA G σ d t = some σ') (old : Value) :
    ∃ u w' μ', (Instr.alloc t true old).run G.P w = .ok u w' ∧ Sim C σ' (a.put (some d) u) w' μ' Fz Fy := by
  unfold allocA at hs
  split at hs
  · rename_i ti hti
    simp only [Option.some.injEq] at hs; subst hs
    obtain ⟨z, hz, _, hzs, hzl⟩ := zero_cells (μ := μ) (sh := shs σ) (Fz := Fz) (Fy := Fy) (w := w) hT hti
    have hrun : (Instr.alloc t true old).run G.P w = .ok (.pointer (some ⟨w.heap.size, 0, none⟩)) (w.alloc (.cells z.cells t)) := by
      simp [Instr.alloc, hz, newVar, newRow]
    refine ⟨_, _, _, hrun, h.made hd (stays_alloc h _) (some (w.heap.size, 0)) _ _ _ (new_free h _) ?_ ?_⟩
    · refine .box _ w.heap.size z.cells t (by simp [setMu]) (heap_new _ _) (by rw [hzs]; simp [(hT t ti hti).zsize]) fun j y hj => ?_
      simp only [List.getElem?_map, Option.map_eq_some_iff] at hj
      obtain ⟨x, hx, rfl⟩ := hj
      have hg := (hT t ti hti).good
      rw [List.all_eq_true] at hg
      have e : z.cells.getD j undef = cval x := by
        have : z.cells.toList[j]? = some (cval x) := by rw [hzl]; simp [hx]
        rw [Array.getElem?_toList] at this
        simp [Array.getD_eq_getD_getElem?, this]
      rw [e]
      exact .fv _ _ _ (rep_cval (hg x (List.mem_of_getElem? hx)))
    · exact .ptr d 0 w.heap.size 0 (by simp [setMu])
  · simp at hs

def boxA (σ : St) (d : Nat) (x : V) : Option St :=
  match vcells σ x with
  | some cs => some (σ.mk' d (.box (cs.map (killV [d]))) (.ptr d 0))
  | none => none
theorem boxA_sound (h : Sim C σ a w μ Fz Fy) {d : Nat} (hd : d < C.N) {x : V} {σ' : St} (hs : boxA σ d x = some σ') {v : Value} (hv : RepV μ (shs σ) Fz Fy w x v) (P : Program) (t : TypeId) :
    ∃ u w' μ', (Instr.box t v).run P w = .ok u w' ∧ Sim C σ' (a.put (some d) u) w' μ' Fz Fy := by
  unfold boxA at hs
  split at hs
  · rename_i cs hcs
    simp only [Option.some.injEq] at hs; subst hs
    obtain ⟨h1, h2⟩ := vcells_sound hcs hv
    have hrun : (Instr.box t v).run P w = .ok (.pointer (some ⟨w.heap.size, 0, none⟩)) (w.alloc (.cells v.cells t)) := by
      simp [Instr.box, newVar, newRow]
    refine ⟨_, _, _, hrun, h.made hd (stays_alloc h _) (some (w.heap.size, 0)) _ _ _ (new_free h _) ?_ ?_⟩
    · refine .box _ w.heap.size v.cells t (by simp [setMu]) (heap_new _ _) (by simp [h1]) fun j y hj => ?_
      simp only [List.getElem?_map, Option.map_eq_some_iff] at hj
      obtain ⟨y', hy', rfl⟩ := hj
      by_cases hk : ([d].any fun s => ment 5 s y') = true
      · simp only [killV, hk, if_true]; exact .top _
      · simp only [killV, hk]
        refine RepV.later h hd (stays_alloc h _) ⟨5, by simpa using hk⟩ (h2 j y' hy')
    · exact .ptr d 0 w.heap.size 0 (by simp [setMu])
  · simp at hs

/-! ### Elements -/
def frees (σ : St) : List Nat → St
  | [] => σ
  | s :: r => frees (σ.drop s) r
/-- An element, fixed; the blocks that it reaches are let go of. -/
def elemA (σ : St) (x : V) : Option (List Nat × FV) :=
  match frz σ 4 x with
  | some (ns, ro, y) => if ro && !flat y then none else some (ns, y)
  | none => none
def elemsA (σ : St) : List V → Option (List Nat × List FV)
  | [] => some ([], [])
  | x :: r => match elemA σ x, elemsA σ r with
    | some (ns, y), some (ms, ys) => some (ns ++ ms, y :: ys)
    | _, _ => none
theorem elemA_sound (h : Sim C σ a w μ Fz Fy) {x : V} {ns : List Nat} {y : FV} {v : Value} (hx : elemA σ x = some (ns, y)) (hv : RepV μ (shs σ) Fz Fy w x v) :
    (∀ s ∈ ns, lk s σ.blk ≠ none) ∧ RepF (Of μ Fz ns) w y v := by
  unfold elemA at hx
  split at hx
  · rename_i ns' ro y' hf
    split at hx
    · simp at hx
    · rename_i hro
      simp only [Option.some.injEq, Prod.mk.injEq] at hx
      obtain ⟨rfl, rfl⟩ := hx
      obtain ⟨h1, h2⟩ := frz_sound h 4 hf hv
      refine ⟨h1, ?_⟩
      cases ro with
      | false => exact h2
      | true => exact h2.of_flat (by simpa using hro)
  · simp at hx
theorem elemsA_sound (h : Sim C σ a w μ Fz Fy) : ∀ {xs : List V} {ns : List Nat} {ys : List FV} {vs : List Value}, elemsA σ xs = some (ns, ys) → vs.length = xs.length →
    (∀ (j : Nat) (x : V), xs[j]? = some x → ∃ v, vs[j]? = some v ∧ RepV μ (shs σ) Fz Fy w x v) → (∀ s ∈ ns, lk s σ.blk ≠ none) ∧ ys.length = xs.length ∧ ∀ (j : Nat) (y : FV), ys[j]? = some y → ∃ v, vs[j]? = some v ∧ RepF (Of μ Fz ns) w y v
  | [], ns, ys, vs, hx, hl, hr => by
    simp only [elemsA, Option.some.injEq, Prod.mk.injEq] at hx
    obtain ⟨rfl, rfl⟩ := hx
    simp
  | x :: xs, ns, ys, vs, hx, hl, hr => by
    simp only [elemsA] at hx
    split at hx
    · rename_i n1 y n2 ys' h1 h2
      simp only [Option.some.injEq, Prod.mk.injEq] at hx
      obtain ⟨rfl, rfl⟩ := hx
      cases vs with
      | nil => simp at hl
      | cons v vs =>
      obtain ⟨v', hv', hr0⟩ := hr 0 x rfl
      simp only [List.getElem?_cons_zero, Option.some.injEq] at hv'; subst hv'
      obtain ⟨a1, a2⟩ := elemA_sound h h1 hr0
      obtain ⟨b1, b2, b3⟩ := elemsA_sound h (vs := vs) h2 (by simpa using hl) (fun j x hj => by simpa using hr (j + 1) x (by simpa using hj))
      refine ⟨fun s hs => ?_, by simp [b2], fun j y hj => ?_⟩
      · rcases List.mem_append.1 hs with hs | hs
        · exact a1 s hs
        · exact b1 s hs
      · cases j with
        | zero =>
          simp only [List.getElem?_cons_zero, Option.some.injEq] at hj; subst hj
          refine ⟨v, rfl, a2.wider fun b hb => ?_⟩
          rcases hb with hb | ⟨s, hs, hm⟩
          · exact .inl hb
          · exact .inr ⟨s, List.mem_append_left _ hs, hm⟩
        | succ j =>
          obtain ⟨u, hu, hru⟩ := b3 j y (by simpa using hj)
          refine ⟨u, by simpa using hu, hru.wider fun b hb => ?_⟩
          rcases hb with hb | ⟨s, hs, hm⟩
          · exact .inl hb
          · exact .inr ⟨s, List.mem_append_right _ hs, hm⟩
    · simp at hx
/-- Letting go of several, fixed. -/
theorem Sim.freezes : ∀ {ns : List Nat} {σ : St} {Fz Fy : Nat → Prop}, Sim C σ a w μ Fz Fy → (∀ s ∈ ns, lk s σ.blk ≠ none) → Sim C (frees σ ns) a w μ (Of μ Fz ns) (Of μ Fy ns)
  | [], σ, Fz, Fy, h, _ => by
    have e1 : Of μ Fz [] = Fz := by funext b; simp [Of]
    have e2 : Of μ Fy [] = Fy := by funext b; simp [Of]
    rw [e1, e2]; exact h
  | s :: r, σ, Fz, Fy, h, hs => by
    have h1 := h.freeze s (hs s (by simp))
    by_cases hsr : ∀ t ∈ r, lk t (σ.drop s).blk ≠ none
    · have h2 := Sim.freezes (ns := r) h1 hsr
      have e : ∀ Z : Nat → Prop, Of μ (fun b => Z b ∨ ∃ base, μ s = some (b, base)) r = Of μ Z (s :: r) := fun Z => by
        funext b
        simp only [Of, List.mem_cons, eq_iff_iff]
        constructor
        · rintro ((hz | hz) | ⟨t, ht, hm⟩)
          · exact .inl hz
          · exact .inr ⟨s, .inl rfl, hz⟩
          · exact .inr ⟨t, .inr ht, hm⟩
        · rintro (hz | ⟨t, (rfl | ht), hm⟩)
          · exact .inl (.inl hz)
          · exact .inl (.inr hm)
          · exact .inr ⟨t, ht, hm⟩
      rw [e, e] at h2
      exact h2
    · -- the same name twice: it is gone already
      have hgo : ∀ (r : List Nat) (σ : St) (Z Y : Nat → Prop), Sim C σ a w μ Z Y → (∀ t ∈ r, lk t σ.blk ≠ none ∨ ∀ b base, μ t = some (b, base) → Z b) → Sim C (frees σ r) a w μ (Of μ Z r) (Of μ Y r) := by
        intro r
        induction r with
        | nil =>
          intro σ Z Y h _
          have e1 : Of μ Z [] = Z := by funext b; simp [Of]
          have e2 : Of μ Y [] = Y := by funext b; simp [Of]
          rw [e1, e2]; exact h
        | cons t r ih =>
          intro σ Z Y h hr
          have e : ∀ Z : Nat → Prop, Of μ (fun b => Z b ∨ ∃ base, μ t = some (b, base)) r = Of μ Z (t :: r) := fun Z => by
            funext b
            simp only [Of, List.mem_cons, eq_iff_iff]
            constructor
            · rintro ((hz | hz) | ⟨u, hu, hm⟩)
              · exact .inl hz
              · exact .inr ⟨t, .inl rfl, hz⟩
              · exact .inr ⟨u, .inr hu, hm⟩
            · rintro (hz | ⟨u, (rfl | hu), hm⟩)
              · exact .inl (.inl hz)
              · exact .inl (.inr hm)
              · exact .inr ⟨u, hu, hm⟩
          by_cases hp : lk t σ.blk ≠ none
          · have h1 := h.freeze t hp
            have := ih _ _ _ h1 (fun u hu => by
              by_cases e : u = t
              · subst e; exact .inr fun b base hm => .inr ⟨base, hm⟩
              · rcases hr u (List.mem_cons_of_mem _ hu) with h | h
                · exact .inl (by simpa [St.drop, lk_rm, e] using h)
                · exact .inr fun b base hm => .inl (h b base hm))
            rw [e, e] at this; exact this
          · have hz : ∀ b base, μ t = some (b, base) → Z b := (hr t (by simp)).resolve_left hp
            have e1 : (fun b => Z b ∨ ∃ base, μ t = some (b, base)) = Z := by
              funext b; simp only [eq_iff_iff, or_iff_left_iff_imp]; rintro ⟨base, hm⟩; exact hz b base hm
            have e2 : (fun b => Y b ∨ ∃ base, μ t = some (b, base)) = Y := by
              funext b; simp only [eq_iff_iff, or_iff_left_iff_imp]; rintro ⟨base, hm⟩; exact h.zy _ (hz b base hm)
            have := ih _ _ _ (h.drop t) (fun u hu => by
              rcases hr u (List.mem_cons_of_mem _ hu) with h' | h'
              · by_cases e : u = t
                · subst e; exact .inr hz
                · exact .inl (by simpa [St.drop, lk_rm, e] using h')
              · exact .inr h')
            rw [← e, ← e, e1, e2]; exact this
      exact hgo (s :: r) σ Fz Fy h fun t ht => .inl (hs t ht)
end
end Go.Proofs.Ytoafhoihigfllaa.E
