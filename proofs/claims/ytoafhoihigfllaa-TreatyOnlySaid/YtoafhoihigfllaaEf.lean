/-
  The engine, part f: struct values that are built, and the law of all operations that make no memory. Conditions: none; it is stated of any program and table of its types.
-/
import Derived.Test.YtoafhoihigfllaaEe
namespace Go.Proofs.Ytoafhoihigfllaa.E
open Go Go.RowKit
set_option linter.unusedVariables false

/-- The cells of a value. -/
def vcells (σ : St) : V → Option (List V)
  | .fv ro (.agg cs) => some (cs.map (nrm ro))
  | .fv ro x => some [.fv ro x]
  | .agg cs => some cs
  | .own s off len => if pres σ s then some [.own s off len] else none
  | .ptr s off => if pres σ s then some [.ptr s off] else none
  | .pel s i j => if pres σ s then some [.pel s i j] else none
  | .map s => if pres σ s then some [.map s] else none
  | .fn f a b => some [.fn f a b]
  | _ => none
def Cells (μ sh : Mu) (Fz Fy : Nat → Prop) (w : World) (cs : List V) (vs : Array Value) : Prop :=
  vs.size = cs.length ∧ ∀ (j : Nat) (y : V), cs[j]? = some y → RepV μ sh Fz Fy w y (vs.getD j undef)
theorem cells_one {μ sh : Mu} {Fz Fy : Nat → Prop} {w : World} {x : V} {v : Value} (h : RepV μ sh Fz Fy w x v) : Cells μ sh Fz Fy w [x] #[v] := by
  refine ⟨rfl, fun j y hj => ?_⟩
  cases j with
  | zero => simp at hj; subst hj; exact h
  | succ j => simp at hj
section
variable {C : Base} {σ : St} {a : Act} {w : World} {μ : Mu} {Fz Fy : Nat → Prop} {G : Pg}
theorem vcells_sound {x : V} {cs : List V} (hc : vcells σ x = some cs) {v : Value} (hv : RepV μ (shs σ) Fz Fy w x v) : Cells μ (shs σ) Fz Fy w cs v.cells := by
  unfold vcells at hc
  split at hc
  · rename_i ro cs'
    simp only [Option.some.injEq] at hc; subst hc
    cases hv with
    | fv _ _ _ hv =>
    cases hv with
    | agg _ vs hs hr =>
    refine ⟨by simp [Value.cells, hs], fun j y hj => ?_⟩
    simp only [List.getElem?_map, Option.map_eq_some_iff] at hj
    obtain ⟨y', hy', rfl⟩ := hj
    exact rep_nrm (hr j y' hy')
  · rename_i ro x hne
    simp only [Option.some.injEq] at hc; subst hc
    have hv0 := hv
    cases hv with
    | fv _ _ _ hv =>
    have e : v.cells = #[v] := by
      cases hv <;> first | rfl | exact absurd rfl (hne _)
    rw [e]; exact cells_one hv0
  · simp only [Option.some.injEq] at hc; subst hc
    cases hv with
    | agg _ vs hs hr => exact ⟨hs, hr⟩
  · split at hc
    · rename_i hp
      simp only [Option.some.injEq] at hc; subst hc
      have hv0 := hv
      cases hv with
      | ownx _ _ _ _ hx => exact (pres_sh hp hx).elim
      | own => exact cells_one hv0
    · simp at hc
  · split at hc
    · rename_i hp
      simp only [Option.some.injEq] at hc; subst hc
      have hv0 := hv
      cases hv with
      | ptrx _ _ _ hx => exact (pres_sh hp hx).elim
      | ptr => exact cells_one hv0
    · simp at hc
  · split at hc
    · rename_i hp
      simp only [Option.some.injEq] at hc; subst hc
      have hv0 := hv
      cases hv with
      | pelx _ _ _ _ hx => exact (pres_sh hp hx).elim
      | pel => exact cells_one hv0
    · simp at hc
  · split at hc
    · rename_i hp
      simp only [Option.some.injEq] at hc; subst hc
      have hv0 := hv
      cases hv with
      | mapx _ _ hx => exact (pres_sh hp hx).elim
      | map => exact cells_one hv0
    · simp at hc
  · simp only [Option.some.injEq] at hc; subst hc
    have hv0 := hv
    cases hv with
    | fn => exact cells_one hv0
  · simp at hc

def splice (cells : List V) (off : Nat) (vc : List V) : List V := cells.take off ++ vc ++ cells.drop (off + vc.length)
def fillV (σ : St) (places : List (Nat × Nat)) : List V → List (Nat × V) → Option (List V)
  | cells, [] => some cells
  | cells, (i, v) :: rest => match places[i]?, vcells σ v with
    | some (off, size), some vc => if vc.length = size ∧ off + vc.length ≤ cells.length then fillV σ places (splice cells off vc) rest else none
    | _, _ => none
theorem foldl_set (off : Nat) : ∀ (vs : List Value) (k : Nat) (cs : Array Value), off + k + vs.length ≤ cs.size →
    let r := (vs.zipIdx k).foldl (fun cs (x : Value × Nat) => cs.setIfInBounds (off + x.2) x.1) cs
    r.size = cs.size ∧ ∀ j, r.getD j undef = if off + k ≤ j ∧ j < off + k + vs.length then vs.getD (j - (off + k)) undef else cs.getD j undef
  | [], k, cs, _ => by simp; intro j h1 h2; omega
  | v :: vs, k, cs, h => by
    simp only [List.length_cons] at h
    have ih := foldl_set off vs (k + 1) (cs.setIfInBounds (off + k) v) (by simp; omega)
    simp only [List.zipIdx_cons, List.foldl_cons]
    obtain ⟨h1, h2⟩ := ih
    refine ⟨by rw [h1]; simp, fun j => ?_⟩
    rw [h2 j]
    by_cases hj : j = off + k
    · subst hj
      have hlt : off + k < cs.size := by omega
      simp [Array.getD_eq_getD_getElem?, hlt]
      intro h; omega
    · have hne : off + k ≠ j := fun e => hj e.symm
      by_cases hr : off + (k + 1) ≤ j ∧ j < off + (k + 1) + vs.length
      · rw [if_pos hr, if_pos (by simp only [List.length_cons]; omega)]
        obtain ⟨m, hm⟩ : ∃ m, j - (off + k) = m + 1 := ⟨j - (off + k) - 1, by omega⟩
        rw [hm, show j - (off + (k + 1)) = m from by omega]
        simp
      · rw [if_neg hr, if_neg (by simp only [List.length_cons]; omega)]
        simp [Array.getD_eq_getD_getElem?, Array.getElem?_setIfInBounds_ne hne]
theorem fillV_sound {places : List (Nat × Nat)} (hp : Nat → Option (Nat × Nat)) (hpl : ∀ i x, places[i]? = some x → hp i = some x) : ∀ (parts : List (Nat × V)) (cells : List V) (r : List V) (vs : Array Value) (ps : List (Nat × Value)),
    fillV σ places cells parts = some r → Cells μ (shs σ) Fz Fy w cells vs → ps.length = parts.length → (∀ (j : Nat) (x : Nat × V), parts[j]? = some x → ∃ v, ps[j]? = some (x.1, v) ∧ RepV μ (shs σ) Fz Fy w x.2 v) →
    ∃ vs', Instr.fill hp vs ps = some vs' ∧ Cells μ (shs σ) Fz Fy w r vs'
  | [], cells, r, vs, ps, hf, hc, hl, _ => by
    simp only [fillV, Option.some.injEq] at hf; subst hf
    have : ps = [] := by simpa using hl
    subst this
    exact ⟨vs, rfl, hc⟩
  | (i, x) :: rest, cells, r, vs, ps, hf, hc, hl, hr => by
    cases ps with
    | nil => simp at hl
    | cons p ps =>
    obtain ⟨v, h0, hv⟩ := hr 0 (i, x) rfl
    simp only [List.getElem?_cons_zero, Option.some.injEq] at h0
    subst h0
    simp only [fillV] at hf
    split at hf
    · rename_i off size vc hpi hvc
      split at hf
      · rename_i hcond
        obtain ⟨h1, h2⟩ := hcond
        have hvs := vcells_sound hvc hv
        simp only [Instr.fill, hpl i _ hpi]
        have e1 : v.cells.size = size := by rw [hvs.1, h1]
        have e2 : ¬ (v.cells.size ≠ size ∨ off + v.cells.size > vs.size) := by
          rw [hvs.1, hc.1]; omega
        rw [if_neg (by rw [Bool.or_eq_true, decide_eq_true_eq, decide_eq_true_eq]; exact e2)]
        refine fillV_sound hp hpl rest _ r _ ps hf ?_ (by simpa using hl) (fun j x hj => by have := hr (j + 1) x (by simpa using hj); simpa using this)
        have hfold := foldl_set off v.cells.toList 0 vs (by rw [Array.length_toList, hvs.1, hc.1]; omega)
        have e3 : v.cells.zipIdx.foldl (fun cs (x : Value × Nat) => cs.setIfInBounds (off + x.2) x.1) vs = (v.cells.toList.zipIdx 0).foldl (fun cs (x : Value × Nat) => cs.setIfInBounds (off + x.2) x.1) vs := by
          rw [← Array.foldl_toList, Array.toList_zipIdx]
        simp only at hfold
        rw [← e3] at hfold
        obtain ⟨f1, f2⟩ := hfold
        refine ⟨?_, fun j y hj => ?_⟩
        · have : (v.cells.zipIdx.foldl (fun cs (x : Value × Nat) => cs.setIfInBounds (off + x.2) x.1) vs).size = vs.size := f1
          rw [this, hc.1]; simp [splice]; omega
        · have : (v.cells.zipIdx.foldl (fun cs (x : Value × Nat) => cs.setIfInBounds (off + x.2) x.1) vs).getD j undef = _ := f2 j
          rw [this]
          simp only [Nat.add_zero, Array.length_toList, hvs.1]
          simp only [splice, List.append_assoc] at hj
          by_cases c1 : j < off
          · rw [if_neg (by omega)]
            rw [List.getElem?_append_left (by simp; omega), List.getElem?_take_of_lt c1] at hj
            exact hc.2 j y hj
          · rw [List.getElem?_append_right (by simp; omega)] at hj
            have e4 : (cells.take off).length = off := by simp; omega
            rw [e4] at hj
            by_cases c2 : j < off + vc.length
            · rw [if_pos (by omega)]
              rw [List.getElem?_append_left (by omega)] at hj
              have := hvs.2 (j - off) y hj
              simpa [Array.getD_eq_getD_getElem?, List.getD_eq_getElem?_getD] using this
            · rw [if_neg (by omega)]
              rw [List.getElem?_append_right (by omega), List.getElem?_drop, show off + vc.length + (j - off - vc.length) = j from by omega] at hj
              exact hc.2 j y hj
      · simp at hf
    · simp at hf

def opds (σ : St) : List Operand → Option (List V)
  | [] => some []
  | x :: r => match opd σ x, opds σ r with
    | some v, some vs => some (v :: vs)
    | _, _ => none
def parts (σ : St) : List (Nat × Operand) → Option (List (Nat × V))
  | [] => some []
  | (i, x) :: r => match opd σ x, parts σ r with
    | some v, some vs => some ((i, v) :: vs)
    | _, _ => none
theorem opds_sound (h : Sim C σ a w μ Fz Fy) : ∀ {xs : List Operand} {vs : List V}, opds σ xs = some vs → vs.length = xs.length ∧ ∀ (j : Nat) (y : V), vs[j]? = some y → ∃ x, xs[j]? = some x ∧ RepV μ (shs σ) Fz Fy w y (a.eval x)
  | [], vs, hv => by simp [opds] at hv; subst hv; simp
  | x :: r, vs, hv => by
    simp only [opds] at hv
    split at hv
    · rename_i v vs' h1 h2
      simp only [Option.some.injEq] at hv; subst hv
      obtain ⟨k1, k2⟩ := opds_sound h h2
      refine ⟨by simp [k1], fun j y hj => ?_⟩
      cases j with
      | zero => simp at hj; subst hj; exact ⟨x, rfl, opd_sound h h1⟩
      | succ j => simpa using k2 j y (by simpa using hj)
    · simp at hv
theorem parts_sound (h : Sim C σ a w μ Fz Fy) : ∀ {xs : List (Nat × Operand)} {vs : List (Nat × V)}, parts σ xs = some vs → vs.length = xs.length ∧ ∀ (j : Nat) (y : Nat × V), vs[j]? = some y → ∃ x, xs[j]? = some (y.1, x) ∧ RepV μ (shs σ) Fz Fy w y.2 (a.eval x)
  | [], vs, hv => by simp [parts] at hv; subst hv; simp
  | (i, x) :: r, vs, hv => by
    simp only [parts] at hv
    split at hv
    · rename_i v vs' h1 h2
      simp only [Option.some.injEq] at hv; subst hv
      obtain ⟨k1, k2⟩ := parts_sound h h2
      refine ⟨by simp [k1], fun j y hj => ?_⟩
      cases j with
      | zero => simp at hj; subst hj; exact ⟨x, rfl, opd_sound h h1⟩
      | succ j => simpa using k2 j y (by simpa using hj)
    · simp at hv
theorem zero_cells {sh : Mu} (hT : TOk G) {t : Nat} {ti : TI} (ht : lk t G.tbl = some ti) : ∃ z, (zeroValue t).run G.P w = .ok z w ∧ Cells μ sh Fz Fy w (ti.zero.map (.fv false)) z.cells ∧ z.cells.size = ti.size ∧ z.cells.toList = ti.zero.map cval := by
  obtain ⟨i, h1, h2, _, z, h3, h4⟩ := (hT t ti ht).info
  have hg := (hT t ti ht).good
  have hl : z.cells.size = ti.zero.length := by rw [← Array.length_toList, h4]; simp
  refine ⟨z, by simp [zeroValue, typeInfo, h1, h3], ⟨by simp [hl], fun j y hj => ?_⟩, by rw [hl, (hT t ti ht).zsize], h4⟩
  simp only [List.getElem?_map, Option.map_eq_some_iff] at hj
  obtain ⟨x, hx, rfl⟩ := hj
  have e : z.cells.getD j undef = cval x := by
    have : z.cells.toList[j]? = some (cval x) := by rw [h4]; simp [hx]
    rw [Array.getElem?_toList] at this
    simp [Array.getD_eq_getD_getElem?, this]
  rw [e]
  rw [List.all_eq_true] at hg
  exact .fv _ _ _ (rep_cval (hg x (List.mem_of_getElem? hx)))

def placesA (G : Pg) : List (Nat × Nat) → Option (List (Nat × Nat))
  | [] => some []
  | (off, t) :: r => match lk t G.tbl, placesA G r with
    | some ti, some ps => some ((off, ti.size) :: ps)
    | _, _ => none
theorem placesA_sound (hT : TOk G) (w : World) : ∀ {fs : List Field} {ps : List (Nat × Nat)}, placesA G (fs.map fun f => (f.offset, f.type)) = some ps →
    (fs.mapM fun f => (do pure (f.offset, ← sizeOf f.type) : Sem (Nat × Nat))).run G.P w = .ok ps w
  | [], ps, h => by simp [placesA] at h; subst h; simp
  | f :: fs, ps, h => by
    simp only [List.map_cons, placesA] at h
    split at h
    · rename_i ti ps' h1 h2
      simp only [Option.some.injEq] at h; subst h
      have ih := placesA_sound hT w h2
      simp only [List.mapM_cons, Sem.run_bind, run_sizeOf' hT h1, Result.andThen_ok, Sem.run_pure, ih]
    · simp at h
def buildA (G : Pg) (σ : St) (t : Nat) (ps : List (Nat × V)) : Option V :=
  match lk t G.tbl with
  | some ⟨_, _, zero, .struct fs⟩ => match placesA G fs with
    | some pl => (fillV σ pl (zero.map (.fv false)) ps).map mkAgg
    | none => none
  | some ⟨_, _, zero, .array n e⟩ => match lk e G.tbl with
    | some ti => (fillV σ ((List.range n).map fun i => (i * ti.size, ti.size)) (zero.map (.fv false)) ps).map mkAgg
    | none => none
  | _ => none
theorem buildA_sound (hT : TOk G) (h : Sim C σ a w μ Fz Fy) {t : Nat} {ps : List (Nat × V)} {r : V} (hb : buildA G σ t ps = some r) (vs : Array (Nat × Value)) (hl : vs.size = ps.length)
    (hr : ∀ (j : Nat) (x : Nat × V), ps[j]? = some x → ∃ v, vs[j]? = some (x.1, v) ∧ RepV μ (shs σ) Fz Fy w x.2 v) :
    ∃ u, (Instr.build t vs).run G.P w = .ok u w ∧ RepV μ (shs σ) Fz Fy w r u := by
  unfold buildA at hb
  split at hb
  · rename_i s1 s2 zero fs heq
    split at hb
    · rename_i pl hpl
      simp only [Option.map_eq_some_iff] at hb
      obtain ⟨cells, hf, rfl⟩ := hb
      obtain ⟨z, hz, hzc, _⟩ := zero_cells (μ := μ) (sh := shs σ) (Fz := Fz) (Fy := Fy) (w := w) hT heq
      obtain ⟨d, hd, fields, rfl, hfs⟩ := (hT t _ heq).under
      rw [← hfs] at hpl
      have hpm := placesA_sound hT w hpl
      obtain ⟨vs', h1, h2⟩ := fillV_sound (hp := fun i => pl.toArray[i]?) (by simp) ps _ _ z.cells vs.toList hf hzc (by simpa using hl) (fun j x hj => by simpa using hr j x hj)
      refine ⟨.agg vs', ?_, mkAgg_sound h.zy vs' h2.1 h2.2⟩
      simp only [Instr.build, Sem.run_bind, hz, Result.andThen_ok, underlying, run_program, hd, Sem.run_pure, Array.mapM_eq_mapM_toList, Sem.run_map, hpm, h1]
    · simp at hb
  · rename_i s1 s2 zero n e heq
    split at hb
    · rename_i ti hti
      simp only [Option.map_eq_some_iff] at hb
      obtain ⟨cells, hf, rfl⟩ := hb
      obtain ⟨z, hz, hzc, _⟩ := zero_cells (μ := μ) (sh := shs σ) (Fz := Fz) (Fy := Fy) (w := w) hT heq
      obtain ⟨d, hd, hd'⟩ := (hT t _ heq).under
      have hd' : d = .array n e := hd'
      subst hd'
      obtain ⟨vs', h1, h2⟩ := fillV_sound (hp := fun i => some (i * ti.size, ti.size)) (by
        intro i x hx
        simp only [List.getElem?_map, Option.map_eq_some_iff] at hx
        obtain ⟨j, hj, rfl⟩ := hx
        have := (List.getElem?_eq_some_iff.1 hj)
        obtain ⟨h1, h2⟩ := this
        simp only [List.getElem_range] at h2
        subst h2; rfl) ps _ _ z.cells vs.toList hf hzc (by simpa using hl) (fun j x hj => by simpa using hr j x hj)
      refine ⟨.agg vs', ?_, mkAgg_sound h.zy vs' h2.1 h2.2⟩
      simp only [Instr.build, Sem.run_bind, hz, Result.andThen_ok, underlying, run_program, hd, Sem.run_pure, run_sizeOf' hT hti, h1]
    · simp at hb
  · simp at hb
end
end Go.Proofs.Ytoafhoihigfllaa.E
