/-
  The engine, part l: stores. Conditions: none; it is stated of any program and table of its types.
-/
import Derived.Test.YtoafhoihigfllaaEk
namespace Go.Proofs.Ytoafhoihigfllaa.E
open Go Go.RowKit
set_option linter.unusedVariables false

section
variable {C : Base} {σ : St} {a : Act} {w w' : World} {μ : Mu} {Fz Fy : Nat → Prop} {G : Pg}
theorem shs_put {s : Nat} {B0 B1 : Blk} (hb : lk s σ.blk = some B0) (hsh : shp B1 = shp B0) : shs { σ with blk := put s B1 σ.blk } = shs σ := by
  funext t
  simp only [shs, lk_put]
  split
  · rename_i e; subst e; simp [hb, hsh]
  · rfl
theorem setRow_stays (h : Sim C σ a w μ Fz Fy) {s b base : Nat} (hs : lk s σ.blk ≠ none) (hm : μ s = some (b, base)) {c c' : Array Value} {e : TypeId} (hh : w.heap[b]? = some (.cells c e (0, 0))) (hcs : c'.size = c.size) :
    Stays C (σ.drop s) w (w.setRow b c') μ Fy := by
  have hlive := h.live s hs b base hm
  have hheap : (w.setRow b c').heap[b]? = some (.cells c' e (0, 0)) := setRow_heap w b c c' e (0, 0) hh
  have hother : ∀ r, r ≠ b → (w.setRow b c').heap[r]? = w.heap[r]? := fun r hr => setRow_other w b r c' hr
  refine { keeps := fun r x e' fr hx => ?_, fixed := fun r hr => hother r (fun e => hlive.2.2 (e ▸ hr)), own := fun t ht r base' hr => hother r (fun e => ?_), below := BelowX.setRow h.below hlive.1 hh c' hcs, size := by simp, rest := fun r hr => hother r (fun e => (h.fm r hr).2.2 s hs base (e ▸ hm)) }
  · by_cases er : r = b
    · subst er
      rw [hh] at hx
      simp only [Option.some.injEq, Obj.cells.injEq] at hx
      obtain ⟨rfl, rfl, rfl⟩ := hx
      exact ⟨c', hheap, hcs⟩
    · exact ⟨x, (hother r er).trans hx, rfl⟩
  · simp only [St.drop, lk_rm] at ht
    by_cases et : t = s
    · simp [et] at ht
    · simp only [et, if_false] at ht
      exact h.inj t s ht hs et r base' b base hr hm e
theorem Sim.upd (h : Sim C σ a w μ Fz Fy) {s : Nat} {B0 B1 : Blk} (hb : lk s σ.blk = some B0) (hsh : shp B1 = shp B0) {b base : Nat} (hm : μ s = some (b, base)) {c c' : Array Value} {e : TypeId}
    (hh : w.heap[b]? = some (.cells c e (0, 0))) (hcs : c'.size = c.size) (hnew : RepB μ (shs σ) Fz Fy (w.setRow b c') s B1) : Sim C { σ with blk := put s B1 σ.blk } a (w.setRow b c') μ Fz Fy := by
  have hst := setRow_stays h (by simp [hb]) hm hh hcs
  have hp : ∀ t, lk t (put s B1 σ.blk) ≠ none → lk t σ.blk ≠ none := fun t ht => by
    by_cases e : t = s
    · subst e; simp [hb]
    · simpa [lk_put, e] using ht
  refine { defers := fun d hd => let ⟨D, e1, e2, e3, e4⟩ := h.defers d hd; ⟨D, e1, e2, e3, (hst.fixed D e2).trans e4⟩, dist := h.dist, small := h.small, y0 := h.y0, lp := h.lp, mm := h.mm, yd := h.yd_stays hst.keeps hst.below hst.size hst.rest, fm := fun r hr => ⟨Nat.lt_of_lt_of_le (h.fm r hr).1 hst.size, (h.fm r hr).2.1, fun t ht => (h.fm r hr).2.2 t (hp t ht)⟩, size := h.size, env := fun k v hk => ⟨(h.env k v hk).1, ?_⟩, blk := fun t x hx => ?_, live := fun t ht r base' hr => ?_, inj := fun t u ht hu => h.inj t u (hp t ht) (hp u hu), zy := h.zy, yl := fun r hr => Nat.lt_of_lt_of_le (h.yl r hr) hst.size, z0 := h.z0, below := hst.below, big := Nat.le_trans h.big hst.size }
  · rw [shs_put hb hsh]
    exact (h.env k v hk).2.mono (fun _ x => x) (fun _ x => x) (fun b x => hst.fixed b (h.zy b x)) hst.fixed hst.keeps (fun _ => False) (fun _ _ => .inr ⟨rfl, rfl⟩) (fun _ x => x) (fun _ x => x.elim)
  · rw [shs_put hb hsh]
    by_cases et : t = s
    · subst et
      simp only [lk_put_same, Option.some.injEq] at hx
      subst hx; exact hnew
    · simp only [lk_put, et, if_false] at hx
      exact (h.blk t x hx).mono (fun _ x => x) (fun _ x => x) (fun b x => hst.fixed b (h.zy b x)) hst.fixed hst.keeps (fun _ => False) (fun _ _ => .inr ⟨rfl, rfl⟩) (fun _ x => x) rfl
        (hst.own t (by simp [St.drop, lk_rm, et, hx])) (fun _ x => x.elim)
  · obtain ⟨k1, k2, k3⟩ := h.live t (hp t ht) r base' hr
    exact ⟨k1, Nat.lt_of_lt_of_le k2 hst.size, k3⟩

/-- One cell's value, of which something is known. -/
def vone (σ : St) : V → Bool
  | .fv _ x => nagg x
  | .own s _ _ => pres σ s
  | .ptr s _ => pres σ s
  | .pel s _ _ => pres σ s
  | .map s => pres σ s
  | .fn _ _ _ => true
  | _ => false
theorem vone_sound {x : V} (hx : vone σ x = true) {v : Value} (hv : RepV μ (shs σ) Fz Fy w x v) : v.oneCell' = true := by
  cases hv with
  | top => simp [vone] at hx
  | fv _ _ _ h => exact h.one hx
  | ownx _ _ _ _ h => exact (pres_sh hx h).elim
  | ptrx _ _ _ h => exact (pres_sh hx h).elim
  | pelx _ _ _ _ h => exact (pres_sh hx h).elim
  | mapx _ _ h => exact (pres_sh hx h).elim
  | agg => simp [vone] at hx
  | tup => simp [vone] at hx
  | _ => rfl
def setEl (x : FV) (j : Nat) (ys : List FV) : Option FV :=
  match x with
  | .agg cs => if j + ys.length ≤ cs.length then some (.agg (cs.take j ++ ys ++ cs.drop (j + ys.length))) else none
  | _ => match j, ys with
    | 0, [y] => if nagg y = true then some y else none
    | _, _ => none
def stoA (G : Pg) (σ : St) (t : Nat) (p x : V) : Option St :=
  match lk t G.tbl, vcells σ x with
  | some ti, some vc =>
    if vc.length = ti.size ∧ vc.all (vone σ) = true then
      match p with
      | .ptr s off => match lk s σ.blk with
        | some (.box cells) => if off + vc.length ≤ cells.length then some { σ with blk := put s (.box (splice cells off vc)) σ.blk } else none
        | _ => none
      | .pel s i j => match lk s σ.blk, elemsA σ vc with
        | some (.arr sz xs), some (ns, ys) => match xs[i]? with
          | some x => match setEl x j ys with
            | some y => if ns.contains s = false ∧ cellsOK sz y = true then some { frees σ ns with blk := put s (.arr sz (xs.set i y)) (frees σ ns).blk } else none
            | none => none
          | none => none
        | _, _ => none
      | _ => none
    else none
  | _, _ => none
theorem cells_put (c : Array Value) (o : Nat) (vs : List Value) (hl : o + vs.length ≤ c.size) :
    let c' := (c.toList.take o ++ vs ++ c.toList.drop (o + vs.length)).toArray
    c'.size = c.size ∧ ∀ k, c'.getD k undef = if o ≤ k ∧ k < o + vs.length then vs.getD (k - o) undef else c.getD k undef := by
  simp only
  refine ⟨by simp; omega, fun k => ?_⟩
  simp only [Array.getD_eq_getD_getElem?, List.getElem?_toArray, List.append_assoc, List.getD_eq_getElem?_getD]
  by_cases h1 : k < o
  · rw [if_neg (by omega), List.getElem?_append_left (by simp; omega), List.getElem?_take_of_lt h1]
    simp
  · by_cases h2 : k < o + vs.length
    · rw [if_pos (by omega), List.getElem?_append_right (by simp; omega), List.getElem?_append_left (by simp; omega)]
      have : k - (c.toList.take o).length = k - o := by simp; omega
      rw [this]
    · rw [if_neg (by omega), List.getElem?_append_right (by simp; omega), List.getElem?_append_right (by simp; omega)]
      have : (c.toList.take o).length = o := by simp; omega
      rw [this, List.getElem?_drop, show o + vs.length + (k - o - vs.length) = k from by omega]
      simp
theorem run_store_at {P : Program} {b o : Nat} {c : Array Value} {e : TypeId} (hh : w.heap[b]? = some (.cells c e (0, 0))) (vs : List Value) (hl : o + vs.length ≤ c.size) (h1 : ∀ v ∈ vs, v.oneCell' = true) :
    (storeCells ⟨b, o, none⟩ vs).run P w = .ok () (w.setRow b (c.toList.take o ++ vs ++ c.toList.drop (o + vs.length)).toArray) := by
  have := run_storeCells_at P b o e vs 0 c w hh (by simpa using hl) h1
  simpa using this
theorem blk_frees : ∀ {ns : List Nat} {σ : St} {s : Nat}, lk s (frees σ ns).blk = if s ∈ ns then none else lk s σ.blk
  | [], σ, s => by simp [frees]
  | n :: ns, σ, s => by
    rw [frees, blk_frees]
    by_cases h : s = n
    · subst h; simp [St.drop, lk_rm]
    · simp [St.drop, lk_rm, h]
theorem stoA_sound (hT : TOk G) (h : Sim C σ a w μ Fz Fy) {t : Nat} {p x : V} {σ' : St} (hs : stoA G σ t p x = some σ') {v u : Value} (hv : RepV μ (shs σ) Fz Fy w p v) (hu : RepV μ (shs σ) Fz Fy w x u) :
    ∃ w' Fz' Fy', (Instr.storeAt t v u).run G.P w = .ok () w' ∧ Sim C σ' a w' μ Fz' Fy' := by
  unfold stoA at hs
  split at hs
  · rename_i ti vc hti hvc
    obtain ⟨hc1, hc2⟩ := vcells_sound hvc hu
    split at hs
    · rename_i hcond
      obtain ⟨hlen, hone⟩ := hcond
      rw [List.all_eq_true] at hone
      have hones : ∀ z ∈ u.cells.toList, z.oneCell' = true := by
        intro z hz
        obtain ⟨j, hj, hjz⟩ := List.getElem_of_mem hz
        have hjl : j < vc.length := by rw [← hc1]; simpa using hj
        have := hc2 j _ (List.getElem?_eq_getElem hjl)
        have e : u.cells.getD j undef = z := by
          have hj' : j < u.cells.size := by simpa using hj
          simp only [Array.getD_eq_getD_getElem?, Array.getElem?_eq_getElem hj', Option.getD_some]
          simpa using hjz
        rw [e] at this
        exact vone_sound (hone _ (List.getElem_mem hjl)) this
      have hul : u.cells.toList.length = vc.length := by simp [hc1]
      split at hs
      · rename_i s off
        split at hs
        · rename_i cells hb
          split at hs
          · rename_i hfit
            simp only [Option.some.injEq] at hs; subst hs
            have hB := h.blk s _ hb
            cases hB with
            | box _ b c e hm hh hc hr =>
            cases hv with
            | ptrx _ _ _ hx => simp [shs, hb] at hx
            | ptr _ _ b' base hm' =>
            rw [hm] at hm'
            simp only [Option.some.injEq, Prod.mk.injEq] at hm'
            obtain ⟨rfl, rfl⟩ := hm'
            have hl : off + u.cells.toList.length ≤ c.size := by rw [hul, hc]; exact hfit
            have hrun := run_store_at (P := G.P) hh u.cells.toList hl hones
            obtain ⟨p1, p2⟩ := cells_put c off u.cells.toList hl
            generalize hc' : (c.toList.take off ++ u.cells.toList ++ c.toList.drop (off + u.cells.toList.length)).toArray = c' at hrun p1 p2
            have hst := setRow_stays h (by simp [hb]) hm hh p1
            refine ⟨_, Fz, Fy, ?_, h.upd hb ?_ hm hh p1 ?_⟩
            · have e1 : u.cells.size = ti.size := by rw [hc1, hlen]
              simp only [Instr.storeAt, Instr.sureAddr, storeVar, Sem.run_bind, Sem.run_pure, Result.andThen_ok, run_sizeOf' hT hti, Sem.run_ite, e1]
              simp [hrun]
            · simp [shp, splice]; omega
            · have hkeep : ∀ (y : V) (z : Value), RepV μ (shs σ) Fz Fy w y z → RepV μ (shs σ) Fz Fy (w.setRow b c') y z := fun y z hy =>
                hy.mono (fun _ x => x) (fun _ x => x) (fun b x => hst.fixed b (h.zy b x)) hst.fixed hst.keeps (fun _ => False) (fun _ _ => .inr ⟨rfl, rfl⟩) (fun _ x => x) (fun _ x => x.elim)
              refine .box _ b c' e hm (setRow_heap w b c c' e (0, 0) hh) (by rw [p1, hc]; simp [splice]; omega) fun j y hj => ?_
              rw [p2 j]
              simp only [splice, List.append_assoc] at hj
              by_cases k1 : j < off
              · rw [if_neg (by omega)]
                rw [List.getElem?_append_left (by simp; omega), List.getElem?_take_of_lt k1] at hj
                exact hkeep _ _ (hr j y hj)
              · rw [List.getElem?_append_right (by simp; omega)] at hj
                have e4 : (cells.take off).length = off := by simp; omega
                rw [e4] at hj
                by_cases k2 : j < off + vc.length
                · rw [if_pos (by omega)]
                  rw [List.getElem?_append_left (by omega)] at hj
                  have := hkeep _ _ (hc2 (j - off) y hj)
                  simpa [Array.getD_eq_getD_getElem?, List.getD_eq_getElem?_getD] using this
                · rw [if_neg (by omega)]
                  rw [List.getElem?_append_right (by omega), List.getElem?_drop, show off + vc.length + (j - off - vc.length) = j from by omega] at hj
                  exact hkeep _ _ (hr j y hj)
          · simp at hs
        · simp at hs
      · rename_i s i j
        split at hs
        · rename_i sz xs ns ys hb hys
          split at hs
          · rename_i x hx
            split at hs
            · rename_i y hy
              split at hs
              · rename_i hcond2
                obtain ⟨hns, hok⟩ := hcond2
                simp only [Option.some.injEq] at hs; subst hs
                have hns' : s ∉ ns := by
                  intro hmem
                  have : ns.contains s = true := by simpa using hmem
                  rw [hns] at this; simp at this
                obtain ⟨e1, e2, e3⟩ := elemsA_sound h (vs := u.cells.toList) hys hul (fun k z hk => by
                  have hkl := (List.getElem?_eq_some_iff.1 hk).1
                  have hk' : k < u.cells.size := by rw [hc1]; exact hkl
                  refine ⟨u.cells[k], by simp [hk'], ?_⟩
                  have := hc2 k z hk
                  simpa [Array.getD_eq_getD_getElem?, hk'] using this)
                have hfz := h.freezes (ns := ns) e1
                have hb' : lk s (frees σ ns).blk = some (.arr sz xs) := by rw [blk_frees, if_neg hns', hb]
                have hB := hfz.blk s _ hb'
                cases hB with
                | nil => simp at hx
                | arr _ _ b base c e hm hh hc hsz hr =>
                cases hv with
                | pelx _ _ _ _ hx => simp [shs, hb] at hx
                | pel _ _ _ sz' n' b' base' hs' hi hm' =>
                rw [hm] at hm'
                simp only [Option.some.injEq, Prod.mk.injEq] at hm'
                obtain ⟨rfl, rfl⟩ := hm'
                simp only [shs, hb, Option.map_some, shp, Option.some.injEq, Prod.mk.injEq] at hs'
                obtain ⟨rfl, rfl⟩ := hs'
                have hxl := ok_len (hsz i x hx)
                -- the new element's cells
                have hcel : (cellsOf y).length = sz ∧ j + ys.length ≤ sz ∧ ∀ k z, (cellsOf y)[k]? = some z → (j ≤ k ∧ k < j + ys.length ∧ ys[k - j]? = some z) ∨ ((k < j ∨ j + ys.length ≤ k) ∧ (cellsOf x)[k]? = some z) := by
                  refine ⟨ok_len hok, ?_⟩
                  unfold setEl at hy
                  split at hy
                  · rename_i cs
                    split at hy
                    · rename_i hle
                      simp only [Option.some.injEq] at hy; subst hy
                      simp only [cellsOf] at hxl ⊢
                      refine ⟨by omega, fun k z hk => ?_⟩
                      rw [List.append_assoc] at hk
                      by_cases k1 : k < j
                      · rw [List.getElem?_append_left (by simp; omega), List.getElem?_take_of_lt k1] at hk
                        exact .inr ⟨.inl k1, hk⟩
                      · rw [List.getElem?_append_right (by simp; omega)] at hk
                        have e4 : (cs.take j).length = j := by simp; omega
                        rw [e4] at hk
                        by_cases k2 : k < j + ys.length
                        · rw [List.getElem?_append_left (by omega)] at hk
                          exact .inl ⟨by omega, k2, hk⟩
                        · rw [List.getElem?_append_right (by omega), List.getElem?_drop, show j + ys.length + (k - j - ys.length) = k from by omega] at hk
                          exact .inr ⟨.inr (by omega), hk⟩
                    · simp at hy
                  · rename_i hne
                    split at hy
                    · rename_i y'
                      split at hy
                      · rename_i hna
                        simp only [Option.some.injEq] at hy; subst hy
                        have hcx : cellsOf x = [x] := by
                          cases x <;> first | rfl | exact absurd rfl (hne _)
                        have hcy : cellsOf y' = [y'] := by
                          cases y' <;> first | rfl | simp [nagg] at hna
                        rw [hcx] at hxl
                        simp only [List.length_cons, List.length_nil] at hxl
                        refine ⟨by simp; omega, fun k z hk => .inl ?_⟩
                        rw [hcy] at hk
                        have hk0 : k = 0 := by have := (List.getElem?_eq_some_iff.1 hk).1; simp at this; exact this
                        subst hk0
                        exact ⟨by omega, by simp, by simpa using hk⟩
                      · simp at hy
                    · simp at hy
                have hl : base + (i * sz + j) + u.cells.toList.length ≤ c.size := by
                  rw [hul, ← e2]
                  have hil := (List.getElem?_eq_some_iff.1 hx).1
                  have : (i + 1) * sz ≤ xs.length * sz := Nat.mul_le_mul_right _ hil
                  rw [Nat.add_mul] at this
                  omega
                have hrun := run_store_at (P := G.P) hh u.cells.toList hl hones
                obtain ⟨p1, p2⟩ := cells_put c (base + (i * sz + j)) u.cells.toList hl
                generalize hc' : (c.toList.take (base + (i * sz + j)) ++ u.cells.toList ++ c.toList.drop (base + (i * sz + j) + u.cells.toList.length)).toArray = c' at hrun p1 p2
                have hst := setRow_stays hfz (by simp [hb']) hm hh p1
                refine ⟨_, _, _, ?_, hfz.upd hb' ?_ hm hh p1 ?_⟩
                · have e1 : u.cells.size = ti.size := by rw [hc1, hlen]
                  simp only [Instr.storeAt, Instr.sureAddr, storeVar, Sem.run_bind, Sem.run_pure, Result.andThen_ok, run_sizeOf' hT hti, Sem.run_ite, e1]
                  simp [hrun]
                · simp [shp]
                · have hkeep : ∀ (y : FV) (z : Value), RepF (Of μ Fz ns) w y z → RepF (Of μ Fz ns) (w.setRow b c') y z := fun y z hy => hy.mono (fun _ x => x) (fun b x => hst.fixed b (hfz.zy b x))
                  refine .arr _ _ b base c' e hm (setRow_heap w b c c' e (0, 0) hh) (by rw [p1]; simpa using hc) (fun i' x' hi' => ?_) fun i' x' k z hi' hk => ?_
                  · by_cases hii : i = i'
                    · subst hii
                      rw [List.getElem?_set_self hi] at hi'
                      simp only [Option.some.injEq] at hi'; subst hi'; exact hok
                    · rw [List.getElem?_set_ne hii] at hi'
                      exact hsz i' x' hi'
                  · rw [p2]
                    by_cases hii : i = i'
                    · subst hii
                      rw [List.getElem?_set_self hi] at hi'
                      simp only [Option.some.injEq] at hi'; subst hi'
                      rcases hcel.2.2 k z hk with ⟨a1, a2, a3⟩ | ⟨a1, a2⟩
                      · rw [if_pos (by rw [hul, ← e2]; omega)]
                        obtain ⟨v', hv', hrep⟩ := e3 (k - j) z a3
                        have : base + (i * sz + k) - (base + (i * sz + j)) = k - j := by omega
                        rw [this, List.getD_eq_getElem?_getD, hv']
                        exact hkeep _ _ hrep
                      · rw [if_neg (by rw [hul, ← e2]; omega)]
                        exact hkeep _ _ (hr i x k z hx a2)
                    · rw [List.getElem?_set_ne hii] at hi'
                      have hkl : k < sz := by rw [← ok_len (hsz i' x' hi')]; exact (List.getElem?_eq_some_iff.1 hk).1
                      have hjl : j + ys.length ≤ sz := hcel.2.1
                      rw [if_neg]
                      · exact hkeep _ _ (hr i' x' k z hi' hk)
                      · rw [hul, ← e2]
                        rcases Nat.lt_or_gt_of_ne hii with hlt | hgt
                        · have : (i + 1) * sz ≤ i' * sz := Nat.mul_le_mul_right _ hlt
                          rw [Nat.add_mul] at this; omega
                        · have : (i' + 1) * sz ≤ i * sz := Nat.mul_le_mul_right _ hgt
                          rw [Nat.add_mul] at this; omega
              · simp at hs
            · simp at hs
          · simp at hs
        · simp at hs
      · simp at hs
    · simp at hs
  · simp at hs
end
end Go.Proofs.Ytoafhoihigfllaa.E
