/-
  The engine, part k: slices of given elements, make, stores. Conditions: none; it is stated of any program and table of its types.
-/
import Derived.Test.YtoafhoihigfllaaEj
namespace Go.Proofs.Ytoafhoihigfllaa.E
open Go Go.RowKit
set_option linter.unusedVariables false

theorem fill_all (sz : Nat) : ∀ (vs : List Value) (k : Nat) (cs : Array Value), (∀ v ∈ vs, v.cells.size = sz) → (k + vs.length) * sz ≤ cs.size →
    ∃ cs', Instr.fill (fun i => some (i * sz, sz)) cs ((vs.zipIdx k).map fun x => (x.2, x.1)) = some cs' ∧ cs'.size = cs.size ∧
      (∀ (i : Nat) (v : Value), vs[i]? = some v → ∀ j, j < sz → cs'.getD ((k + i) * sz + j) undef = v.cells.getD j undef) ∧ ∀ j, j < k * sz → cs'.getD j undef = cs.getD j undef
  | [], k, cs, _, _ => ⟨cs, rfl, rfl, by simp, fun _ _ => rfl⟩
  | v :: vs, k, cs, hv, hl => by
    have hvs : v.cells.size = sz := hv v (by simp)
    simp only [List.length_cons] at hl
    have hk : k * sz + sz ≤ cs.size := by
      have : (k + 1) * sz ≤ (k + (vs.length + 1)) * sz := Nat.mul_le_mul_right _ (by omega)
      rw [Nat.add_mul] at this; omega
    have hfold := foldl_set (k * sz) v.cells.toList 0 cs (by rw [Array.length_toList, hvs]; omega)
    have e3 : v.cells.zipIdx.foldl (fun cs (x : Value × Nat) => cs.setIfInBounds (k * sz + x.2) x.1) cs = (v.cells.toList.zipIdx 0).foldl (fun cs (x : Value × Nat) => cs.setIfInBounds (k * sz + x.2) x.1) cs := by
      rw [← Array.foldl_toList, Array.toList_zipIdx]
    simp only at hfold
    rw [← e3] at hfold
    obtain ⟨f1, f2⟩ := hfold
    obtain ⟨cs', g1, g2, g3, g4⟩ := fill_all sz vs (k + 1) (v.cells.zipIdx.foldl (fun cs (x : Value × Nat) => cs.setIfInBounds (k * sz + x.2) x.1) cs) (fun u hu => hv u (by simp [hu])) (by
      have : (k + 1 + vs.length) * sz = (k + (vs.length + 1)) * sz := by congr 1; omega
      have e : (v.cells.zipIdx.foldl (fun cs (x : Value × Nat) => cs.setIfInBounds (k * sz + x.2) x.1) cs).size = cs.size := f1
      rw [e]; omega)
    refine ⟨cs', ?_, g2.trans f1, fun i u hi j hj => ?_, fun j hj => ?_⟩
    · simp only [List.zipIdx_cons, List.map_cons, Instr.fill]
      rw [if_neg (by rw [Bool.or_eq_true, decide_eq_true_eq, decide_eq_true_eq]; rw [hvs]; omega)]
      exact g1
    · cases i with
      | zero =>
        simp only [List.getElem?_cons_zero, Option.some.injEq] at hi; subst hi
        rw [Nat.add_zero, g4 _ (by rw [Nat.add_mul]; omega)]
        have : (v.cells.zipIdx.foldl (fun cs (x : Value × Nat) => cs.setIfInBounds (k * sz + x.2) x.1) cs).getD (k * sz + j) undef = _ := f2 (k * sz + j)
        rw [this, if_pos (by rw [Array.length_toList, hvs]; omega)]
        simp [Array.getD_eq_getD_getElem?, List.getD_eq_getElem?_getD]
      | succ i =>
        have := g3 i u (by simpa using hi) j hj
        rwa [show k + 1 + i = k + (i + 1) from by omega] at this
    · rw [g4 _ (by rw [Nat.add_mul]; omega)]
      have : (v.cells.zipIdx.foldl (fun cs (x : Value × Nat) => cs.setIfInBounds (k * sz + x.2) x.1) cs).getD j undef = _ := f2 j
      rw [this, if_neg (by omega)]

def bsA (G : Pg) (σ : St) (d t len : Nat) (ps : List (Nat × V)) : Option St :=
  match lk t G.tbl with
  | some ⟨_, _, _, .slice e⟩ => match lk e G.tbl with
    | some ti => match elemsA σ (ps.map (·.2)) with
      | some (ns, ys) => if ps.map (·.1) = List.range len ∧ ys.all (cellsOK ti.size) = true ∧ len * ti.size ≤ 16777216 then some ((frees σ ns).mk' d (.arr ti.size ys) (.own d 0 len)) else none
      | none => none
    | none => none
  | _ => none
section
variable {C : Base} {σ : St} {a : Act} {w w' : World} {μ : Mu} {Fz Fy : Nat → Prop} {G : Pg}
theorem RepF.cells {Z : Nat → Prop} {x : FV} {v : Value} (h : RepF Z w x v) : v.cells.size = (cellsOf x).length ∧ ∀ (j : Nat) (y : FV), (cellsOf x)[j]? = some y → RepF Z w y (v.cells.getD j undef) := by
  cases x with
  | agg cs => cases h with
    | agg _ vs hs hr => exact ⟨hs, hr⟩
  | _ =>
    have e : v.cells = #[v] := by cases h <;> rfl
    rw [e]
    refine ⟨rfl, fun j y hj => ?_⟩
    cases j with
    | zero => simp only [cellsOf, List.getElem?_cons_zero, Option.some.injEq] at hj; subst hj; exact h
    | succ j => simp [cellsOf] at hj
theorem bsA_sound (hT : TOk G) (h : Sim C σ a w μ Fz Fy) {d t len : Nat} (hd : d < C.N) {ps : List (Nat × V)} {σ' : St} (hs : bsA G σ d t len ps = some σ') (vs : Array (Nat × Value)) (hl : vs.size = ps.length)
    (hr : ∀ (j : Nat) (x : Nat × V), ps[j]? = some x → ∃ v, vs[j]? = some (x.1, v) ∧ RepV μ (shs σ) Fz Fy w x.2 v) :
    ∃ u w' μ' Fz' Fy', (Instr.buildSlice t len vs).run G.P w = .ok u w' ∧ Sim C σ' (a.put (some d) u) w' μ' Fz' Fy' := by
  unfold bsA at hs
  split at hs
  · rename_i s1 s2 s3 e heq
    obtain ⟨dd, hd', hk⟩ := (hT t _ heq).under
    simp only [KindIs] at hk; subst hk
    split at hs
    · rename_i ti hti
      split at hs
      · rename_i ns ys hys
        split at hs
        · rename_i hcond
          obtain ⟨h1, h2, h3⟩ := hcond
          simp only [Option.some.injEq] at hs; subst hs
          have hpl : ps.length = len := by have := congrArg List.length h1; simpa using this
          obtain ⟨e1, e2, e3⟩ := elemsA_sound h (vs := vs.toList.map (·.2)) hys (by simp [hl]) (fun j x hj => by
            simp only [List.getElem?_map, Option.map_eq_some_iff] at hj
            obtain ⟨p, hp, rfl⟩ := hj
            obtain ⟨v, hv, hrv⟩ := hr j p hp
            exact ⟨v, by simp [hv], hrv⟩)
          rw [List.length_map, hpl] at e2
          have hfz := h.freezes (ns := ns) e1
          rw [List.all_eq_true] at h2
          have hcells : ∀ v ∈ vs.toList.map (·.2), v.cells.size = ti.size := by
            intro v hv
            obtain ⟨j, hj, hjv⟩ := List.getElem_of_mem hv
            have hjl : j < ys.length := by rw [e2, ← hpl, ← hl]; simpa using hj
            obtain ⟨v', hv', hrep⟩ := e3 j _ (List.getElem?_eq_getElem hjl)
            rw [List.getElem?_eq_getElem hj, hjv] at hv'
            simp only [Option.some.injEq] at hv'; subst hv'
            rw [hrep.cells.1]
            exact ok_len (h2 _ (List.getElem_mem hjl))
          have hz := zero_cells (μ := μ) (sh := shs σ) (Fz := Fz) (Fy := Fy) (w := w) hT hti
          obtain ⟨z, hz, _, hzs, _⟩ := hz
          have hzip : vs.toList = ((vs.toList.map (·.2)).zipIdx 0).map fun x => (x.2, x.1) := by
            apply List.ext_getElem?
            intro j
            by_cases hj : j < vs.size
            · have hjp : j < ps.length := by omega
              obtain ⟨v, hv, _⟩ := hr j ps[j] (List.getElem?_eq_getElem hjp)
              have hidx : ps[j].1 = j := by
                have := congrArg (·[j]?) h1
                simp only [List.getElem?_map, List.getElem?_eq_getElem hjp, Option.map_some] at this
                rw [List.getElem?_range (by omega)] at this
                simpa using this
              rw [hidx] at hv
              simp [hv]
            · rw [List.getElem?_eq_none (by simp; omega), List.getElem?_eq_none (by simp; omega)]
          obtain ⟨cs', f1, f2, f3, _⟩ := fill_all ti.size (vs.toList.map (·.2)) 0 ((Array.range (len * ti.size)).map ((if len * ti.size = 0 then #[] else z.cells)[· % (if len * ti.size = 0 then (#[] : Array Value) else z.cells).size]!)) hcells (by simp [hl, hpl])
          rw [← hzip] at f1
          have hrun : (Instr.buildSlice t len vs).run G.P w = .ok (.slice (some ⟨w.heap.size, 0, none⟩) len len) (w.alloc (.cells cs' e)) := by
            simp only [Instr.buildSlice, underlying, Sem.run_bind, run_program, Result.andThen_ok, hd', Sem.run_pure, run_sizeOf' hT hti, Sem.run_ite]
            rw [if_neg (by omega)]
            by_cases h0 : len * ti.size = 0
            · simp only [h0, if_true] at f1
              simp only [h0, if_true, f1, newRow]
              simp
            · simp only [h0, if_false] at f1
              simp only [h0, if_false, Result.andThen_ok, hz, f1, newRow, Sem.run_bind, Sem.run_pure]
              simp
          have hsize : cs'.size = len * ti.size := by rw [f2]; simp
          refine ⟨_, _, _, _, _, hrun, hfz.made hd (stays_alloc hfz _) (some (w.heap.size, 0)) _ _ _ (new_free hfz _) ?_ ?_⟩
          · refine .arr _ _ w.heap.size 0 cs' e (by simp [setMu]) (heap_new _ _) (by rw [hsize, e2]; simp) (fun i x hi => h2 x (List.mem_of_getElem? hi)) fun i x j y hi hj => ?_
            obtain ⟨v, hv, hrep⟩ := e3 i x hi
            have hjl : j < ti.size := by rw [← ok_len (h2 x (List.mem_of_getElem? hi))]; exact (List.getElem?_eq_some_iff.1 hj).1
            have := f3 i v hv j hjl
            rw [Nat.zero_add] at this
            rw [Nat.zero_add, this]
            exact (hrep.cells.2 j y hj).mono (fun _ x => x) fun b hb => (stays_alloc hfz _).fixed b (hfz.zy b hb)
          · refine .own d 0 len _ len ti.size ys.length ?_ (by omega) (Nat.le_refl _) (.inr ⟨w.heap.size, 0, by simp [setMu], by simp, cs', e, heap_new _ _, ?_⟩)
            · rw [shs_mk]; simp [shp]
            · rw [hsize]; simp
        · simp at hs
      · simp at hs
    · simp at hs
  · simp at hs

/-! ### make([]T, l, c) -/
/-- No elements: no room, too. -/
def bs0A (G : Pg) (σ : St) (d t len : Nat) : Option St :=
  match lk t G.tbl with
  | some ⟨_, _, _, .slice e⟩ => match lk e G.tbl with
    | some ti => if len = 0 then some { σ with env := put d (.fv false (.sl true ti.size [])) σ.env } else none
    | none => none
  | _ => none
theorem bs0A_sound (hT : TOk G) (h : Sim C σ a w μ Fz Fy) {d t len : Nat} (hd : d < C.N) {σ' : St} (hs : bs0A G σ d t len = some σ') : ∃ u w', (Instr.buildSlice t len #[]).run G.P w = .ok u w' ∧ Sim C σ' (a.put (some d) u) w' μ Fz Fy := by
  unfold bs0A at hs
  split at hs
  · rename_i sz bt zr e hti
    split at hs
    · rename_i ti he
      split at hs
      · rename_i hl
        subst hl
        simp only [Option.some.injEq] at hs; subst hs
        obtain ⟨dd, hdd, hk⟩ := (hT t _ hti).under
        have hk' : dd = .slice e := hk
        subst hk'
        have hrun : (Instr.buildSlice t 0 #[]).run G.P w = .ok (.slice (some ⟨w.heap.size, 0, none⟩) 0 0) (w.alloc (.cells #[] e)) := by
          simp [Instr.buildSlice, underlying, hdd, run_sizeOf' hT he, Instr.fill, newRow, show (Array.range 0) = #[] from rfl]
        exact ⟨_, _, hrun, (h.stays (stays_alloc h _)).set d hd _ _ (.fv _ _ _ (.sl0 _ _ _ _ (fun _ => rfl)))⟩
      · cases hs
    · cases hs
  · cases hs
def elemOf (zs : List FV) : FV := match zs with
  | [x] => x
  | zs => .agg zs
def mkA (G : Pg) (σ : St) (d t : Nat) (l c : Int) : Option St :=
  match lk t G.tbl with
  | some ⟨_, _, _, .slice e⟩ => match lk e G.tbl with
    | some ti => if 0 ≤ l ∧ l ≤ c ∧ ti.bytes * c ≤ 281474976710656 ∧ c ≤ 9223372036854775807 ∧ ti.size ≠ 0 then some (σ.mk' d (.arr ti.size (List.replicate l.toNat (elemOf ti.zero))) (.own d 0 l.toNat)) else none
    | none => none
  | _ => none
theorem zgood_nagg {x : FV} (h : zgood x = true) : nagg x = true := by cases x <;> simp_all [zgood, nagg]
theorem cells_elemOf {zs : List FV} (h : zs.all zgood = true) (h0 : zs.length ≠ 0) : cellsOf (elemOf zs) = zs := by
  unfold elemOf
  split
  · rename_i x
    simp only [List.all_cons, List.all_nil, Bool.and_true] at h
    have := zgood_nagg h
    cases x <;> simp_all [cellsOf, nagg]
  · rfl
theorem mkA_sound (hT : TOk G) (h : Sim C σ a w μ Fz Fy) {d t : Nat} (hd : d < C.N) {l c : Int} {σ' : St} (hs : mkA G σ d t l c = some σ') (k1 k2 : IntKind) :
    ∃ u w' μ', (Instr.makeSlice t (.int k1 l) (.int k2 c)).run G.P w = .ok u w' ∧ Sim C σ' (a.put (some d) u) w' μ' Fz Fy := by
  unfold mkA at hs
  split at hs
  · rename_i s1 s2 s3 e heq
    obtain ⟨dd, hd', hk⟩ := (hT t _ heq).under
    simp only [KindIs] at hk; subst hk
    split at hs
    · rename_i ti hti
      split at hs
      · rename_i hcond
        obtain ⟨h0, hlc, hby, hmx, hsz0⟩ := hcond
        simp only [Option.some.injEq] at hs; subst hs
        obtain ⟨z, hz, _, hzs, hzl⟩ := zero_cells (μ := μ) (sh := shs σ) (Fz := Fz) (Fy := Fy) (w := w) hT hti
        obtain ⟨i, hi, his, hib, _⟩ := (hT e ti hti).info
        have hg := (hT e ti hti).good
        have hzl' := (hT e ti hti).zsize
        have wl : IntKind.i64.wrap l = l := IntWalk.i64_in _ (by omega)
        have wc : IntKind.i64.wrap c = c := IntWalk.i64_in _ (by omega)
        have e1 : ¬ ((decide (c < 0) || decide ((i.bytes : Int) * c > 2 ^ 48) || decide (l < 0) || decide (l > c)) = true) := by
          rw [hib]
          simp only [Bool.or_eq_true, decide_eq_true_eq, not_or, show (2 : Int) ^ 48 = 281474976710656 from by decide]
          omega
        have hzr : z.cells.size ≠ 0 := by rw [hzs]; exact hsz0
        have hrun : ∃ cs : Array Value, (Instr.makeSlice t (.int k1 l) (.int k2 c)).run G.P w = .ok (.slice (some ⟨w.heap.size, 0, none⟩) l.toNat c.toNat) (w.alloc (.cells cs e)) ∧ cs.size = c.toNat * ti.size ∧ ∀ k, k < c.toNat * ti.size → cs.getD k undef = z.cells.getD (k % ti.size) undef := by
          by_cases hn : c.toNat * ti.size = 0
          · refine ⟨#[], ?_, by simp [hn], fun k hk => by omega⟩
            simp only [Instr.makeSlice, underlying, Sem.run_bind, run_program, Result.andThen_ok, hd', Sem.run_pure, asInt, asIntOf, typeInfo, hi, wl, wc, Sem.run_ite]
            rw [if_neg e1]
            simp only [run_askRoom, Result.andThen_ok, run_sizeOf' hT hti, hn, if_true, newRow, Sem.run_bind, Sem.run_pure]
            have er : ∀ f : Nat → Value, Array.map f (Array.range 0) = #[] := fun f => by apply Array.eq_empty_of_size_eq_zero; simp
            simp [er]
          · refine ⟨(Array.range (c.toNat * ti.size)).map (z.cells[· % z.cells.size]!), ?_, by simp, fun k hk => ?_⟩
            · simp only [Instr.makeSlice, underlying, Sem.run_bind, run_program, Result.andThen_ok, hd', Sem.run_pure, asInt, asIntOf, typeInfo, hi, wl, wc, Sem.run_ite]
              rw [if_neg e1]
              simp only [run_askRoom, Result.andThen_ok, run_sizeOf' hT hti, hn, if_false, hz, newRow, Sem.run_bind, Sem.run_pure]
              simp
            · rw [Array.getD_eq_getD_getElem?, Array.getElem?_map, Array.getElem?_range, if_pos hk]
              have hlt : k % z.cells.size < z.cells.size := Nat.mod_lt _ (by omega)
              simp only [Option.map_some, Option.getD_some, ← hzs]
              simp [hlt]
        obtain ⟨cs, hrun, hcs, hcz⟩ := hrun
        have hce := cells_elemOf hg (by rw [hzl']; exact hsz0)
        refine ⟨_, _, _, hrun, h.made hd (stays_alloc h _) (some (w.heap.size, 0)) _ _ _ (new_free h _) ?_ ?_⟩
        · refine .arr _ _ w.heap.size 0 cs e (by simp [setMu]) (heap_new _ _) ?_ (fun i x hi => ?_) fun i x j y hi hj => ?_
          · rw [hcs, List.length_replicate, Nat.zero_add]; exact Nat.mul_le_mul_right _ (by omega)
          · rw [List.getElem?_replicate] at hi
            split at hi
            · simp only [Option.some.injEq] at hi; subst hi
              simp only [cellsOK, hce, hzl', beq_self_eq_true, Bool.true_and, List.all_eq_true]
              rw [List.all_eq_true] at hg
              exact fun y hy => zgood_nagg (hg y hy)
            · simp at hi
          · rw [List.getElem?_replicate] at hi
            split at hi
            · rename_i hil
              simp only [Option.some.injEq] at hi; subst hi
              rw [hce] at hj
              have hjl : j < ti.size := by rw [← hzl']; exact (List.getElem?_eq_some_iff.1 hj).1
              have hk : i * ti.size + j < c.toNat * ti.size := by
                have : (i + 1) * ti.size ≤ c.toNat * ti.size := Nat.mul_le_mul_right _ (by omega)
                rw [Nat.add_mul] at this; omega
              rw [Nat.zero_add, hcz _ hk]
              have e2 : (i * ti.size + j) % ti.size = j := by rw [Nat.mul_comm, Nat.mul_add_mod, Nat.mod_eq_of_lt hjl]
              rw [e2]
              have e3 : z.cells.getD j undef = cval y := by
                have : z.cells.toList[j]? = some (cval y) := by rw [hzl]; simp [hj]
                rw [Array.getElem?_toList] at this
                simp [Array.getD_eq_getD_getElem?, this]
              rw [e3]
              rw [List.all_eq_true] at hg
              exact rep_cval (hg y (List.mem_of_getElem? hj))
            · simp at hi
        · refine .own d 0 _ _ c.toNat ti.size l.toNat ?_ (by omega) (by omega) (.inr ⟨w.heap.size, 0, by simp [setMu], by simp, cs, e, heap_new _ _, ?_⟩)
          · rw [shs_mk]; simp [shp]
          · rw [hcs]; simp
      · simp at hs
    · simp at hs
  · simp at hs
end
end Go.Proofs.Ytoafhoihigfllaa.E
