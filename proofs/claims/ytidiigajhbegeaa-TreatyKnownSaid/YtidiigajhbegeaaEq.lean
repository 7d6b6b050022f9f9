/-
  The engine, part 6: what a body comes to. Conditions: none.
-/
import Derived.Test.YtidiigajhbegeaaEy
import Derived.RangeFuncLeaves
namespace Go.Proofs.Ytidiigajhbegeaa.E
open Go Go.RowKit
set_option linter.unusedVariables false

/-! ### A whole function -/
def initEnv : Nat → List (Bool × FV) → List (Nat × V)
  | _, [] => []
  | k, (ro, x) :: r => (k, .fv ro x) :: initEnv (k + 1) r
def initSt (args : List (Bool × FV)) : St := { env := initEnv 0 args, blk := [] }
theorem lk_initEnv : ∀ (args : List (Bool × FV)) (k j : Nat), lk j (initEnv k args) = if k ≤ j then (args[j - k]?).map fun p => .fv p.1 p.2 else none
  | [], k, j => by simp [initEnv, lk]
  | (ro, x) :: r, k, j => by
    simp only [initEnv, lk]
    by_cases h : j = k
    · subst h; simp
    · rw [if_neg h, lk_initEnv r (k + 1) j]
      by_cases h2 : k ≤ j
      · rw [if_pos h2, if_pos (by omega)]
        obtain ⟨m, hm⟩ : ∃ m, j - k = m + 1 := ⟨j - k - 1, by omega⟩
        rw [hm, show j - (k + 1) = m from by omega]
        simp
      · rw [if_neg h2, if_neg (by omega)]
/-- A result: of its own, if it is a whole block of the frame's that no other result before it took; else fixed. -/
def ownR (σ : St) (taken : List Nat) : V → Option (List Nat × TV)
  | .own s off len => match lk s σ.blk with
    | some (.arr sz xs) => if off = 0 ∧ len = xs.length ∧ taken.contains s = false then some ([s], .us sz xs) else none
    | _ => none
  | _ => none
def retA (σ : St) (taken : List Nat) (v : V) : Option (List Nat × TV) :=
  match ownR σ taken v with
  | some r => some r
  | none => match frz σ 6 v with
    | some (ns, ro, x) => if (ro && !flat x) || ns.any (fun s => taken.contains s) then none else some (ns, .fv x)
    | none => none
def retsA (σ : St) : List Nat → List V → Option (List TV)
  | _, [] => some []
  | taken, v :: r => match retA σ taken v with
    | some (ns, x) => match retsA σ (ns ++ taken) r with
      | some xs => some (x :: xs)
      | none => none
    | none => none
def slotsA (G : Pg) (σ : St) : List ResultVar → Option (List V)
  | [] => some []
  | .tmp t :: r => match opd σ (.tmp t), slotsA G σ r with
    | some v, some vs => some (v :: vs)
    | _, _ => none
  | .cell c t :: r => match opd σ (.tmp c) with
    | some p => match loadA G σ t p, slotsA G σ r with
      | some v, some vs => some (v :: vs)
      | _, _ => none
    | none => none
section
variable {C : Base} {G : Pg}
def resF (tmps : Array Value) (r : ResultVar) : Sem Value :=
  match r with
  | .tmp t => pure (tmps.getD t undef)
  | .cell a t => do loadVar t (← asAddr (tmps.getD a undef))
theorem results_eq (fn : Func) (tmps : Array Value) : results fn tmps = (do
    let vs ← fn.results.mapM (resF tmps)
    pure (if h : vs.size = 1 then vs[0] else .tuple vs)) := by
  unfold results
  congr 1
/-- Marks are taken: some blocks that hold no cells turn. -/
structure Shut (own : Nat → Prop) (w w' : World) : Prop where
  os : w'.os = w.os
  tape : w'.tape = w.tape
  output : w'.output = w.output
  size : w'.heap.size = w.heap.size
  cell : ∀ a, w'.cell? a = w.cell? a
  blk : ∀ b, w'.heap[b]? = w.heap[b]? ∨ (own b ∧ ∃ ds, w.heap[b]? = some (.deferred ds))
theorem Shut.refl (own : Nat → Prop) (w : World) : Shut own w w := ⟨rfl, rfl, rfl, rfl, fun _ => rfl, fun _ => .inl rfl⟩
theorem leaves_marks {P : Program} {F : Fence} {n : Nat} {fn : Func} {tmps : Array Value} {R : Ending → World → Prop} {own : Nat → Prop} : ∀ (ds : List Deferred) (w : World), (∀ d ∈ ds, ∃ D, d.target = .collected D ∧ own D ∧ w.heap[D]? = some (.deferred (some []))) →
    ds.Pairwise (fun d e => d.target ≠ e.target) → (∀ w', Shut own w w' → LeavesIn F n P fn tmps R [] .returning w') → LeavesInM F n P fn tmps R ds .returning w
  | [], w, _, _, h => h w (Shut.refl own w)
  | d :: ds, w, hm, hp, h => by
    obtain ⟨D, e1, e2, e3⟩ := hm d (by simp)
    have hp' := List.pairwise_cons.1 hp
    have hne : ∀ b, b ≠ D → (w.putObj D (.deferred none)).heap[b]? = w.heap[b]? := fun b hb => World.putObj_heap_other hb
    have hlt : D < w.heap.size := (Array.getElem?_eq_some_iff.1 e3).1
    have hs : (w.putObj D (.deferred none)).heap[D]? = some (.deferred none) := World.putObj_heap_same hlt
    refine ⟨by simp, .inl ⟨D, _, e1, run_takeDeferred e3, leaves_marks (own := own) ds _ (fun d' hd' => ?_) hp'.2 fun w' hw' => h w' ?_⟩⟩
    · obtain ⟨D', k1, k2, k3⟩ := hm d' (by simp [hd'])
      refine ⟨D', k1, k2, (hne D' fun e => ?_).trans k3⟩
      exact hp'.1 d' hd' (by rw [e1, k1, e])
    · refine ⟨hw'.os, hw'.tape, hw'.output, hw'.size.trans (by simp), fun a => (hw'.cell a).trans ?_, fun b => ?_⟩
      · by_cases e : a.block = D
        · simp [World.cell?, e, hs, e3]
        · simp [World.cell?, hne _ e]
      · by_cases e : b = D
        · subst e; exact .inr ⟨e2, _, e3⟩
        · rcases hw'.blk b with k | ⟨k1, ds', k2⟩
          · exact .inl (k.trans (hne b e))
          · exact .inr ⟨k1, ds', (hne b e).symm.trans k2⟩
theorem loadVar_sound (hT : TOk G) {σ : St} {a : Act} {w : World} {μ : Mu} {Fz Fy : Nat → Prop} (h : Sim C σ a w μ Fz Fy) {t : Nat} {p r : V} (hl : loadA G σ t p = some r) {v : Value} (hv : RepV μ (shs σ) Fz Fy w p v) :
    ∃ ad u, v = .pointer (some ad) ∧ RepV μ (shs σ) Fz Fy w r u ∧ ∀ w', (∀ a, w'.cell? a = w.cell? a) → (loadVar t ad).run G.P w' = .ok u w' := by
  unfold loadA at hl
  split at hl
  · rename_i ti hti
    split at hl
    · rename_i cs hcs
      obtain ⟨hlen, ad, rfl, hsp, hcell⟩ := look_sound h hcs hv
      refine ⟨ad, ?_⟩
      split at hl
      · rename_i hag
        simp only [Option.some.injEq] at hl; subst hl
        have hx : ∀ j, j < ti.size → ∃ u, w.cell? (ad.add j) = some u ∧ ∀ y, cs[j]? = some y → RepV μ (shs σ) Fz Fy w y u := fun j hj => by
          have hj' : j < cs.length := by omega
          obtain ⟨u, h1, h2⟩ := hcell j cs[j] (List.getElem?_eq_getElem hj')
          refine ⟨u, by rw [add_zero' ad hsp]; exact h1, fun y hy => ?_⟩
          rw [List.getElem?_eq_getElem hj'] at hy
          simp only [Option.some.injEq] at hy; subst hy; exact h2
        obtain ⟨f, hf⟩ : ∃ f : Nat → Value, ∀ j, j < ti.size → w.cell? (ad.add j) = some (f j) ∧ ∀ y, cs[j]? = some y → RepV μ (shs σ) Fz Fy w y (f j) :=
          ⟨fun j => if hj : j < ti.size then (hx j hj).choose else undef, fun j hj => by simpa [hj] using (hx j hj).choose_spec⟩
        refine ⟨_, rfl, mkAgg_sound h.zy ((List.range ti.size).map f).toArray (by simp [hlen]) fun j y hj => ?_, fun w' hw => ?_⟩
        · have hj' : j < ti.size := by rw [← hlen]; exact (List.getElem?_eq_some_iff.1 hj).1
          have e : (((List.range ti.size).map f).toArray.getD j undef) = f j := by simp [Array.getD_eq_getD_getElem?, hj']
          rw [e]; exact (hf j hj').2 y hj
        · simp only [loadVar, Sem.run_bind, Result.andThen_ok, run_isAgg' hT hti, hag, if_true, run_sizeOf' hT hti, run_loadCells' f ad w' ti.size (fun j hj => (hw _).trans (hf j hj).1), Sem.run_pure]
      · rename_i hag
        split at hl
        · rename_i c
          simp only [Option.some.injEq] at hl; subst hl
          obtain ⟨u, h1, h2⟩ := hcell 0 c rfl
          have h1' : w.cell? ad = some u := by cases ad; simp_all
          have hag' : ti.kind.agg = false := by simpa using hag
          exact ⟨u, rfl, h2, fun w' hw => by simp only [loadVar, Sem.run_bind, Result.andThen_ok, run_isAgg' hT hti, hag', Bool.false_eq_true, if_false, run_load, (hw ad).trans h1']⟩
        · simp at hl
    · simp at hl
  · simp at hl
theorem slotsA_sound (hT : TOk G) {σ : St} {a : Act} {w : World} {μ : Mu} {Fz Fy : Nat → Prop} (h : Sim C σ a w μ Fz Fy) : ∀ {rs : List ResultVar} {vs : List V}, slotsA G σ rs = some vs →
    ∃ us : List Value, us.length = vs.length ∧ (∀ w', (∀ a, w'.cell? a = w.cell? a) → (rs.mapM (resF a.tmps)).run G.P w' = .ok us w') ∧ ∀ (j : Nat) (y : V), vs[j]? = some y → ∃ u, us[j]? = some u ∧ RepV μ (shs σ) Fz Fy w y u
  | [], vs, hs => by
    simp only [slotsA, Option.some.injEq] at hs; subst hs
    exact ⟨[], rfl, fun _ _ => by simp, by simp⟩
  | .tmp t :: r, vs, hs => by
    simp only [slotsA] at hs
    split at hs
    · rename_i v vs' h1 h2
      simp only [Option.some.injEq] at hs; subst hs
      obtain ⟨us, k2, k1, k3⟩ := slotsA_sound hT h h2
      refine ⟨a.tmps.getD t undef :: us, by simp [k2], fun w' hw => ?_, fun j y hj => ?_⟩
      · simp only [List.mapM_cons, Sem.run_bind, resF, Sem.run_pure, Result.andThen_ok, k1 w' hw]
      · cases j with
        | zero => simp only [List.getElem?_cons_zero, Option.some.injEq] at hj; subst hj; exact ⟨_, rfl, opd_sound h h1⟩
        | succ j => simpa using k3 j y (by simpa using hj)
    · simp at hs
  | .cell c t :: r, vs, hs => by
    simp only [slotsA] at hs
    split at hs
    · rename_i p hp
      split at hs
      · rename_i v vs' h1 h2
        simp only [Option.some.injEq] at hs; subst hs
        obtain ⟨us, k2, k1, k3⟩ := slotsA_sound hT h h2
        have hpv := opd_sound h hp
        obtain ⟨ad, u, e1, hru, hrun⟩ := loadVar_sound hT h h1 hpv
        refine ⟨u :: us, by simp [k2], fun w' hw => ?_, fun j y hj => ?_⟩
        · have e3 : a.tmps.getD c undef = .pointer (some ad) := e1
          simp only [List.mapM_cons, Sem.run_bind, resF, e3, asAddr, Sem.run_pure, Result.andThen_ok, hrun w' hw, k1 w' hw]
        · cases j with
          | zero => simp only [List.getElem?_cons_zero, Option.some.injEq] at hj; subst hj; exact ⟨_, rfl, hru⟩
          | succ j => simpa using k3 j y (by simpa using hj)
      · simp at hs
    · simp at hs
theorem RepF.cells_mono {Fz Fz' : Nat → Prop} {w w' : World} (hf : ∀ b, Fz b → Fz' b) (hcell : ∀ a, w'.cell? a = w.cell? a) {x : FV} {v : Value} (h : RepF Fz w x v) : RepF Fz' w' x v := by
  induction h with
  | int k n => exact .int k n
  | bool b => exact .bool b
  | str s => exact .str s
  | nilfn => exact .nilfn
  | nilpt => exact .nilpt
  | nilif => exact .nilif
  | nilmp => exact .nilmp
  | top v h => exact .top v h
  | sl0 clip sz a cap hc => exact .sl0 clip sz a cap hc
  | sl clip sz xs b o len cap us hlen hcap hclip hb hsz hc hr ih => exact .sl clip sz xs b o len cap us hlen hcap hclip (hf b hb) hsz (fun i x j y h1 h2 => (hcell _).trans (hc i x j y h1 h2)) ih
  | pt cells off b o us hb hc hr ih => exact .pt cells off b o us (hf b hb) (fun j y h1 => (hcell _).trans (hc j y h1)) ih
  | agg cells vs hs hr ih => exact .agg cells vs hs ih
  | fn f first captured vf vc hs hs' hr hr' ih ih' => exact .fn f first captured vf vc hs hs' ih ih'
  | rb f pre post b o vp vq hb hs hs' hc hr hr' ih ih' => exact .rb f pre post b o vp vq (hf b hb) hs hs' ((hcell _).trans hc) ih ih'
theorem ownR_sound {σ : St} {a : Act} {w : World} {μ : Mu} {Fz Fy : Nat → Prop} (h : Sim C σ a w μ Fz Fy) {taken ns : List Nat} {v : V} {r : TV} (hr : ownR σ taken v = some (ns, r)) {u : Value} (hu : RepV μ (shs σ) Fz Fy w v u) :
    ∃ s sz xs, ns = [s] ∧ s ∉ taken ∧ lk s σ.blk = some (.arr sz xs) ∧ r = .us sz xs ∧ RepV μ (shs σ) Fz Fy w (.own s 0 xs.length) u := by
  unfold ownR at hr
  split at hr
  · rename_i s off len
    split at hr
    · rename_i sz xs hb
      split at hr
      · rename_i hc
        obtain ⟨rfl, rfl, ht⟩ := hc
        simp only [Option.some.injEq, Prod.mk.injEq] at hr
        obtain ⟨rfl, rfl⟩ := hr
        refine ⟨s, sz, xs, rfl, fun hm => ?_, hb, rfl, hu⟩
        have : taken.contains s = true := by simpa using hm
        rw [ht] at this; simp at this
      · simp at hr
    · simp at hr
  · simp at hr
theorem retA_sound {σ : St} {a : Act} {w : World} {μ : Mu} {Fz Fy : Nat → Prop} (h : Sim C σ a w μ Fz Fy) {taken ns : List Nat} {v : V} {r : TV} (hr : retA σ taken v = some (ns, r)) {u : Value} (hu : RepV μ (shs σ) Fz Fy w v u) :
    (∀ s ∈ ns, s ∉ taken ∧ lk s σ.blk ≠ none) ∧ ((∃ x, r = .fv x ∧ RepF (Of μ Fz ns) w x u) ∨ ∃ s sz xs, ns = [s] ∧ lk s σ.blk = some (.arr sz xs) ∧ r = .us sz xs ∧ RepV μ (shs σ) Fz Fy w (.own s 0 xs.length) u) := by
  unfold retA at hr
  split at hr
  · rename_i r' hr'
    simp only [Option.some.injEq] at hr; subst hr
    obtain ⟨s, sz, xs, rfl, hnt, hb, rfl, hv⟩ := ownR_sound h hr' hu
    exact ⟨by simpa using ⟨hnt, by simp [hb]⟩, .inr ⟨s, sz, xs, rfl, hb, rfl, hv⟩⟩
  · split at hr
    · rename_i ns' ro x hf
      split at hr
      · simp at hr
      · rename_i hro
        simp only [Option.some.injEq, Prod.mk.injEq] at hr
        obtain ⟨rfl, rfl⟩ := hr
        simp only [Bool.or_eq_true, Bool.and_eq_true, Bool.not_eq_true', List.any_eq_true, not_or, not_and, not_exists] at hro
        obtain ⟨h1, h2⟩ := frz_sound h 6 hf hu
        refine ⟨fun s hs => ⟨fun ht => ?_, h1 s hs⟩, .inl ⟨x, rfl, ?_⟩⟩
        · exact hro.2 s hs (by simpa using ht)
        · cases ro with
          | false => exact h2
          | true =>
            have hfl : flat x = true := by
              have := hro.1 rfl
              simpa using this
            exact h2.of_flat hfl
    · simp at hr
theorem retsA_sound {σ : St} {a : Act} {w : World} {μ : Mu} {Fz Fy : Nat → Prop} (h : Sim C σ a w μ Fz Fy) : ∀ {vs : List V} {taken : List Nat} {rs : List TV} {us : List Value}, retsA σ taken vs = some rs → us.length = vs.length →
    (∀ (j : Nat) (y : V), vs[j]? = some y → ∃ u, us[j]? = some u ∧ RepV μ (shs σ) Fz Fy w y u) →
    rs.length = vs.length ∧ ∃ nms : Nat → List Nat, (∀ i j s, s ∈ nms i → s ∈ nms j → i = j) ∧ (∀ i s, s ∈ nms i → s ∉ taken ∧ lk s σ.blk ≠ none) ∧
      ∀ (j : Nat) (r : TV), rs[j]? = some r → ∃ u, us[j]? = some u ∧ ((∃ x, r = .fv x ∧ RepF (Of μ Fz (nms j)) w x u) ∨ ∃ s sz xs, nms j = [s] ∧ lk s σ.blk = some (.arr sz xs) ∧ r = .us sz xs ∧ RepV μ (shs σ) Fz Fy w (.own s 0 xs.length) u)
  | [], taken, rs, us, hs, _, _ => by
    simp only [retsA, Option.some.injEq] at hs; subst hs
    exact ⟨rfl, fun _ => [], by simp, by simp, by simp⟩
  | v :: vs, taken, rs, us, hs, hl, hr => by
    simp only [retsA] at hs
    split at hs
    · rename_i ns x h1
      split at hs
      · rename_i xs h2
        simp only [Option.some.injEq] at hs; subst hs
        cases us with
        | nil => simp at hl
        | cons u us =>
        obtain ⟨u', hu', hru⟩ := hr 0 v rfl
        simp only [List.getElem?_cons_zero, Option.some.injEq] at hu'; subst hu'
        obtain ⟨k1, nms, k2, k3, k4⟩ := retsA_sound h (us := us) h2 (by simpa using hl) (fun j y hj => by simpa using hr (j + 1) y (by simpa using hj))
        obtain ⟨m1, m2⟩ := retA_sound h h1 hru
        refine ⟨by simp [k1], fun j => match j with | 0 => ns | j + 1 => nms j, fun i j s hi hj => ?_, fun i s hi => ?_, fun j r hj => ?_⟩
        · cases i with
          | zero => cases j with
            | zero => rfl
            | succ j => exact absurd (List.mem_append_left _ hi) (k3 j s hj).1
          | succ i => cases j with
            | zero => exact absurd (List.mem_append_left _ hj) (k3 i s hi).1
            | succ j => rw [k2 i j s hi hj]
        · cases i with
          | zero => exact m1 s hi
          | succ i => exact ⟨fun hm => (k3 i s hi).1 (List.mem_append_right _ hm), (k3 i s hi).2⟩
        · cases j with
          | zero =>
            simp only [List.getElem?_cons_zero, Option.some.injEq] at hj; subst hj
            exact ⟨u, rfl, m2⟩
          | succ j => simpa using k4 j r (by simpa using hj)
      · simp at hs
    · simp at hs
/-- The end of a body: the results. -/
theorem body_end (hT : TOk G) {fn : Func} {σ : St} {a' : Act} {w' : World} {μ' : Mu} {Fz' Fy' : Nat → Prop} (hB : C.B = C.w0.heap.size) (hrd : C.rd = none) (h' : Sim C σ a' w' μ' Fz' Fy') {vs : List V} {res : List TV} (hs : slotsA G σ fn.results.toList = some vs) (hr : retsA σ [] vs = some res) {n : Nat} :
    LeavesInM (FR none) n G.P fn a'.tmps (fun e w' => ∃ v us m, e = .returned v ∧ BelowX C w' ∧ Res C.X C.Fz0 C.w0 w' res v us m) a'.defers .returning w' := by
  refine leaves_marks (own := fun b => C.mine b ∧ Fy' b) a'.defers w' (fun d hd => ?_) h'.dist fun w'' hw => ?_
  · obtain ⟨D, e1, e2, e3, e4⟩ := h'.defers d hd
    exact ⟨D, e1, ⟨e3 hrd, e2⟩, e4⟩
  obtain ⟨us', k2, k1, k3⟩ := slotsA_sound hT h' hs
  obtain ⟨l1, nms, l2, l3, l4⟩ := retsA_sound h' (us := us') hr k2 k3
  have hcells : ∀ (b : Nat) (c : Array Value) (e : TypeId) (fr : Nat × Nat), w'.heap[b]? = some (.cells c e fr) → w''.heap[b]? = some (.cells c e fr) := fun b c e fr hb => by
    rcases hw.blk b with k | ⟨_, ds, k⟩
    · exact k.trans hb
    · rw [k] at hb; cases hb
  have hbel : BelowX C w'' := by
    have hb := h'.below
    refine ⟨hw.os.trans hb.os, hw.tape.trans hb.tape, hw.output.trans hb.output, by rw [hw.size]; exact hb.size, fun k hk hx => ?_, fun k c e fr hx hk hc => ?_⟩
    · rcases hw.blk k with k1 | ⟨⟨k1, _⟩, _⟩
      · exact k1.trans (hb.block k hk hx)
      · rcases k1 with k1 | k1
        · omega
        · exact absurd k1 hx
    · obtain ⟨c', e1, e2⟩ := hb.kept k c e fr hx hk hc
      exact ⟨c', hcells k c' e fr e1, e2⟩
  refine ⟨pack us', ?_, pack us', us', fun j => match res[j]? with | some (.us _ _) => ((nms j).head?).bind μ' | _ => none, rfl, hbel, rfl, by rw [k2, l1], fun j r hj => ?_, fun j b base hm => ?_, fun i j b base b' base' hij hm hm' => ?_⟩
  · rw [results_eq, Array.mapM_eq_mapM_toList]
    simp only [Sem.run_bind, Sem.run_map]
    rw [k1 w'' hw.cell]
    simp only [Result.andThen_ok, Sem.run_pure]
    congr 1
    match us' with
    | [] => rfl
    | [u] => rfl
    | u :: u' :: us'' => simp [pack]
  · obtain ⟨u, hu, h1⟩ := l4 j r hj
    refine ⟨u, hu, ?_⟩
    -- which blocks results stand in
    have hmj : ∀ i b base, (match res[i]? with | some (.us _ _) => ((nms i).head?).bind μ' | _ => none) = some (b, base) → ∃ s, s ∈ nms i ∧ μ' s = some (b, base) ∧ ∃ sz xs, res[i]? = some (.us sz xs) := fun i b base e => by
      split at e
      · rename_i sz xs hri
        cases hh : (nms i).head? with
        | none => simp [hh] at e
        | some s => exact ⟨s, List.mem_of_mem_head? (by simp [hh]), by simpa [hh] using e, sz, xs, hri⟩
      · simp at e
    -- what is fixed at the end is fixed for the caller
    have hzz : ∀ b, Fz' b → newX C.X C.Fz0 C.w0 w'' (fun j => match res[j]? with | some (.us _ _) => ((nms j).head?).bind μ' | _ => none) b := fun b hb => by
      rcases h'.z0 b hb with h0 | h0
      · exact .inl h0
      · refine .inr ⟨hB ▸ h0, by rw [hw.size]; exact h'.yl b (h'.zy b hb), fun i base hm => ?_⟩
        obtain ⟨s, e1, e2, _⟩ := hmj i b base hm
        exact (h'.live s (l3 i s e1).2 b base e2).2.2 (h'.zy b hb)
    rcases h1 with ⟨x, rfl, hx⟩ | ⟨s, sz, xs, hn, hb, rfl, hv⟩
    · refine .fv x u (hx.cells_mono (fun b hb => ?_) hw.cell)
      rcases hb with hb | ⟨s, hs', base, hm⟩
      · exact hzz b hb
      · obtain ⟨m1, m2, _⟩ := h'.live s (l3 j s hs').2 b base hm
        refine .inr ⟨hB ▸ m1, by rw [hw.size]; exact m2, fun i base' hmi => ?_⟩
        obtain ⟨s', e1, e2, sz', xs', e3⟩ := hmj i b base' hmi
        have hne : s ≠ s' := fun e => by
          subst e
          have := l2 j i s hs' e1
          subst this
          rw [hj] at e3; cases e3
        exact h'.inj s s' (l3 j s hs').2 (l3 i s' e1).2 hne b base b base' hm e2 rfl
    · have hmu : (match res[j]? with | some (.us _ _) => ((nms j).head?).bind μ' | _ => none) = μ' s := by rw [hj, hn]; rfl
      refine .us sz xs u ?_ ?_
      · cases hv with
        | ownx _ _ _ _ hx => simp [shs, hb] at hx
        | own _ _ _ ad cap sz' n' hs hn' hc hm =>
        simp only [shs, hb, Option.map_some, shp, Option.some.injEq, Prod.mk.injEq] at hs
        obtain ⟨rfl, rfl⟩ := hs
        refine .own 0 0 _ ad cap sz xs.length rfl hn' hc (hm.imp id fun ⟨b, base, e1, e2, e3⟩ => ⟨b, base, by rw [hmu]; exact e1, e2, ?_⟩)
        obtain ⟨c, e, q1, q2⟩ := e3
        exact ⟨c, e, hcells _ _ _ _ q1, q2⟩
      · have := h'.blk s _ hb
        cases this with
        | nil => exact .nil _
        | arr _ _ b base c e hm hh hc hsz hr => exact .arr _ _ b base c e (by rw [hmu]; exact hm) (hcells _ _ _ _ hh) hc hsz fun i x j y h1 h2 => (hr i x j y h1 h2).cells_mono hzz hw.cell
  · split at hm
    · rename_i sz xs hrj
      cases hh : (nms j).head? with
      | none => simp [hh] at hm
      | some s =>
        obtain ⟨m1, m2, _⟩ := h'.live s (l3 j s (List.mem_of_mem_head? (by simp [hh]))).2 b base (by simpa [hh] using hm)
        exact ⟨hB ▸ m1, by rw [hw.size]; exact m2⟩
    · simp at hm
  · split at hm
    · split at hm'
      · cases hh : (nms i).head? with
        | none => simp [hh] at hm
        | some s =>
          cases hh' : (nms j).head? with
          | none => simp [hh'] at hm'
          | some t =>
            have m1 : s ∈ nms i := List.mem_of_mem_head? (by simp [hh])
            have m2 : t ∈ nms j := List.mem_of_mem_head? (by simp [hh'])
            exact h'.inj s t (l3 i s m1).2 (l3 j t m2).2 (fun e => hij (l2 i j s m1 (e ▸ m2))) b base b' base' (by simpa [hh] using hm) (by simpa [hh'] using hm')
      · simp at hm'
    · simp at hm
theorem calls_of_marks {P : Program} {k : FuncId} {fn : Func} {c : Code} {args : Array Value} {w : World} {R : Ending → World → Prop} (hf : P.funcs[k]? = some fn) (hb : fn.body = some c)
    (h : c.wpIn (FR none) 0 P (bodyPostM (FR none) 0 P fn R) { tmps := args ++ Array.replicate (fn.ntmps - args.size) undef, defers := [] } w) : Calls P k args w R :=
  (callsIn_FR (r := none) (n := 0)).1 (callsIn_of_wp_marks hf hb trivial h rfl)
/-- WHAT A FUNCTION'S BODY COMES TO, BY THE ENGINE, IS WHAT IS SAID OF IT. -/
theorem valid_of_exec (hT : TOk G) (hC : CtxOk G) (hyl : G.yl = none) {k : FuncId} {fn : Func} {c : Code} (hf : G.P.funcs[k]? = some fn) (hb : fn.body = some c) {L : Live} {D : Drawer} (hD : DrawOk G fn.ntmps D) (n : Nat)
    {args : List (Bool × FV)} (hargs : args.length ≤ fn.ntmps ∧ fn.ntmps ≤ 90000) {e : Ex} {σ : St} (hx : exec G L fn.ntmps D n c (initSt args) = some (e, σ)) (he : e = .normal ∨ e = .ret) {vs : List V} {res : List TV} (hs : slotsA G σ fn.results.toList = some vs) (hr : retsA σ [] vs = some res) :
    Valid G.P k args res := by
  intro w Fz Fy us hzy hyl' hlen hrep hgl
  refine calls_of_marks hf hb ?_
  let C : Base := { N := fn.ntmps, B := w.heap.size, w0 := w, Fz0 := Fz, X := noX }
  have hinit : Sim C (initSt args) { tmps := us.toArray ++ Array.replicate (fn.ntmps - us.toArray.size) undef, defers := [] } w (fun _ => none) Fz Fy := by
    refine { defers := fun d hd => by simp at hd, dist := .nil, size := ?_, small := hargs.2, env := fun j v hj => ⟨trivial, ?_⟩, blk := fun s b hb => by simp [initSt, lk] at hb, live := fun s hs => by simp [initSt, lk] at hs, inj := fun s t hs => by simp [initSt, lk] at hs, zy := hzy, yl := hyl', gl := hgl, z0 := fun b hb => .inl hb, y0 := fun b hb => .inl trivial, below := .of_below (Below.refl _ _), big := Nat.le_refl _, fm := fun _ x => x.elim, yd := fun _ e => (by cases e), mm := fun _ x => x.elim, lp := fun _ e => (by cases e) }
    · simp [hlen, C]; omega
    · simp only [initSt, lk_initEnv, Nat.zero_le, if_true, Nat.sub_zero, Option.map_eq_some_iff] at hj
      obtain ⟨p, hp, rfl⟩ := hj
      have hjl : j < args.length := (List.getElem?_eq_some_iff.1 hp).1
      obtain ⟨u, hu, hru⟩ := hrep j p hp
      refine .fv _ _ _ ?_
      have : C.get { tmps := us.toArray ++ Array.replicate (fn.ntmps - us.toArray.size) undef, defers := [] } j = u := by
        have hju : j < us.length := by omega
        rw [List.getElem?_eq_getElem hju] at hu
        simp only [Option.some.injEq] at hu
        rw [Base.get, if_pos (by unfold GH; omega)]
        simp [Array.getD_eq_getD_getElem?, Array.getElem?_append, hju, hu]
      rw [this]; exact hru
  refine exec_sound hT hC hD c C _ _ _ _ _ _ _ _ _ 0 rfl (yok_none hyl) hinit hx fun M' a' w' μ' Fz' Fy' hM h' => ?_
  have hbe := body_end (C := C.withM M') hT (fn := fn) rfl rfl h' hs hr (n := 0)
  have hq : LeavesInM (FR none) 0 G.P fn a'.tmps (fun e w' => ∃ v us m, e = .returned v ∧ Below w.heap.size w w' ∧ Res noX Fz w w' res v us m) a'.defers .returning w' := by
    have e : (fun (e : Ending) w' => ∃ v us m, e = .returned v ∧ BelowX (C.withM M') w' ∧ Res (C.withM M').X (C.withM M').Fz0 (C.withM M').w0 w' res v us m) = fun e w' => ∃ v us m, e = .returned v ∧ Below w.heap.size w w' ∧ Res noX Fz w w' res v us m := by
      funext e w'
      apply propext
      constructor
      · rintro ⟨v, us, m, h1, h2, h3⟩
        exact ⟨v, us, m, h1, h2.below fun _ hx => hx, h3⟩
      · rintro ⟨v, us, m, h1, h2, h3⟩
        exact ⟨v, us, m, h1, .of_below h2, h3⟩
    rw [← e]; exact hbe
  rcases he with rfl | rfl <;> exact hq
/-- A frame to which a box is handed over. -/
def initStB (cells args : List (Bool × FV)) : St := { env := (0, .ptr 0 0) :: initEnv 1 args, blk := [(0, .box (cells.map fun p => .fv p.1 p.2))] }
theorem validB_of_exec (hT : TOk G) (hC : CtxOk G) (hyl : G.yl = none) {k : FuncId} {fn : Func} {c : Code} (hf : G.P.funcs[k]? = some fn) (hb : fn.body = some c) {L : Live} {D : Drawer} (hD : DrawOk G fn.ntmps D) (n : Nat)
    {cells args : List (Bool × FV)} (hargs : args.length + 1 ≤ fn.ntmps ∧ fn.ntmps ≤ 90000) {e : Ex} {σ : St} (hx : exec G L fn.ntmps D n c (initStB cells args) = some (e, σ)) (he : e = .normal ∨ e = .ret) {vs : List V} {res : List TV} (hs : slotsA G σ fn.results.toList = some vs) (hr : retsA σ [] vs = some res) :
    ValidB G.P k cells args res := by
  intro w Fz Fy b0 cs ce us hzy hyl' hb0 hbh hcs hcells hlen hrep hgl
  refine calls_of_marks hf hb ?_
  let C : Base := { N := fn.ntmps, B := w.heap.size, w0 := w, Fz0 := Fz, X := fun b => b = b0 }
  have hlt : b0 < w.heap.size := (Array.getElem?_eq_some_iff.1 hbh).1
  generalize htm : (Value.pointer (some ⟨b0, 0, none⟩) :: us).toArray ++ Array.replicate (fn.ntmps - (Value.pointer (some ⟨b0, 0, none⟩) :: us).toArray.size) undef = tm
  have hget : ∀ j u, (Value.pointer (some ⟨b0, 0, none⟩) :: us)[j]? = some u → C.get { tmps := tm, defers := [] } j = u := fun j u hu => by
    have hju : j < (Value.pointer (some ⟨b0, 0, none⟩) :: us).length := (List.getElem?_eq_some_iff.1 hu).1
    rw [List.getElem?_eq_getElem hju] at hu
    simp only [Option.some.injEq] at hu
    rw [Base.get, if_pos (by unfold GH; simp at hju; omega), ← htm]
    simp only [Array.getD_eq_getD_getElem?]
    rw [Array.getElem?_append_left (by simpa using hju)]
    simp only [List.getElem?_toArray, List.getElem?_eq_getElem hju, Option.getD_some]
    exact hu
  have hinit : Sim C (initStB cells args) { tmps := tm, defers := [] } w (fun s => if s = 0 then some (b0, 0) else none) Fz Fy := by
    refine { defers := fun d hd => by simp at hd, dist := .nil, size := ?_, small := hargs.2, env := fun j v hj => ⟨trivial, ?_⟩, blk := fun s b hsb => ?_, live := fun s hs b base hm => ?_, inj := fun s t hs ht hst => ?_, zy := hzy, yl := hyl', gl := hgl, z0 := fun b hb => .inl hb, y0 := fun b hb => .inl trivial, below := .of_below (Below.refl _ _), big := Nat.le_refl _, fm := fun _ x => x.elim, yd := fun _ e => (by cases e), mm := fun _ x => x.elim, lp := fun _ e => (by cases e) }
    · rw [← htm]; simp [hlen, C]; omega
    · simp only [initStB, lk] at hj
      split at hj
      · rename_i e0; subst e0
        simp only [Option.some.injEq] at hj; subst hj
        rw [hget 0 _ rfl]
        exact .ptr 0 0 b0 0 (by simp)
      · rename_i e0
        rw [lk_initEnv] at hj
        split at hj
        · rename_i h1
          simp only [Option.map_eq_some_iff] at hj
          obtain ⟨p, hp, rfl⟩ := hj
          obtain ⟨u, hu, hru⟩ := hrep (j - 1) p hp
          refine .fv _ _ _ ?_
          rw [hget j u (by obtain ⟨i, rfl⟩ : ∃ i, j = i + 1 := ⟨j - 1, by omega⟩
                           simpa using hu)]
          exact hru
        · simp at hj
    · simp only [initStB, lk] at hsb
      split at hsb
      · rename_i e0; subst e0
        simp only [Option.some.injEq] at hsb; subst hsb
        refine .box _ b0 cs ce (by simp) hbh (by simpa using hcs) fun j y hj => ?_
        simp only [List.getElem?_map, Option.map_eq_some_iff] at hj
        obtain ⟨p, hp, rfl⟩ := hj
        exact .fv _ _ _ (hcells j p hp)
      · simp at hsb
    · split at hm
      · simp only [Option.some.injEq, Prod.mk.injEq] at hm
        obtain ⟨rfl, rfl⟩ := hm
        exact ⟨.inr rfl, hlt, hb0⟩
      · simp at hm
    · have h0 : ∀ s, lk s (initStB cells args).blk ≠ none → s = 0 := fun s hs => by
        simp only [initStB, lk] at hs
        split at hs
        · assumption
        · simp at hs
      exact absurd ((h0 s hs).trans (h0 t ht).symm) hst
  refine exec_sound hT hC hD c C _ _ _ _ _ _ _ _ _ 0 rfl (yok_none hyl) hinit hx fun M' a' w' μ' Fz' Fy' hM h' => ?_
  have hbe := body_end (C := C.withM M') hT (fn := fn) rfl rfl h' hs hr (n := 0)
  have hq : LeavesInM (FR none) 0 G.P fn a'.tmps (fun e w' => ∃ v us m, e = .returned v ∧ BelowX { N := 0, B := w.heap.size, w0 := w, Fz0 := Fz, X := fun b => b = b0 } w' ∧ Res (fun b => b = b0) Fz w w' res v us m) a'.defers .returning w' := by
    have e : (fun (e : Ending) w' => ∃ v us m, e = .returned v ∧ BelowX (C.withM M') w' ∧ Res (C.withM M').X (C.withM M').Fz0 (C.withM M').w0 w' res v us m) = fun e w' => ∃ v us m, e = .returned v ∧ BelowX { N := 0, B := w.heap.size, w0 := w, Fz0 := Fz, X := fun b => b = b0 } w' ∧ Res (fun b => b = b0) Fz w w' res v us m := by
      funext e w'
      apply propext
      constructor
      · rintro ⟨v, us, m, h1, h2, h3⟩
        exact ⟨v, us, m, h1, ⟨h2.os, h2.tape, h2.output, h2.size, h2.block, h2.kept⟩, h3⟩
      · rintro ⟨v, us, m, h1, h2, h3⟩
        exact ⟨v, us, m, h1, ⟨h2.os, h2.tape, h2.output, h2.size, h2.block, h2.kept⟩, h3⟩
    rw [← e]; exact hbe
  rcases he with rfl | rfl <;> exact hq
/-- An iterator's frame. -/
def initStY (caps : List (Bool × FV)) : St := { env := (0, .yv) :: initEnv 1 caps, blk := [] }
/-- WHAT AN ITERATOR'S BODY COMES TO, BY THE ENGINE, IS WHAT IS SAID OF IT. -/
theorem it_of_exec (hT : TOk G) (hC : CtxOk G) {zs : List (List FV)} {st : Option Nat} (hyl : G.yl = some (some zs, st)) {k : FuncId} {fn : Func} {c : Code} (hf : G.P.funcs[k]? = some fn) (hb : fn.body = some c) {L : Live} {D : Drawer} (hD : DrawOk G fn.ntmps D) (n : Nat)
    {caps : List (Bool × FV)} (hargs : caps.length + 1 ≤ fn.ntmps ∧ fn.ntmps ≤ 90000) {e : Ex} {σ : St} (hx : exec G L fn.ntmps D n c (initStY caps) = some (e, σ)) (he : e = .normal ∨ e = .ret) (htr : σ.tr.length = zs.length) {vs : List V} (hs : slotsA G σ fn.results.toList = some vs) :
    ItOK G.P k caps zs st := by
  intro w Fz Fy M0 us y hzy hyl' hlen hrep hgl hn1 hM0 hJ hround
  refine calls_of_marks hf hb ?_
  let C : Base := { N := fn.ntmps, B := w.heap.size, w0 := w, Fz0 := Fz, X := M0, M := M0, yl := some y }
  generalize htm : (Value.func (.yield y.l) #[] #[] :: us).toArray ++ Array.replicate (fn.ntmps - (Value.func (.yield y.l) #[] #[] :: us).toArray.size) undef = tm
  have hget : ∀ j u, (Value.func (.yield y.l) #[] #[] :: us)[j]? = some u → C.get { tmps := tm, defers := [] } j = u := fun j u hu => by
    have hju : j < (Value.func (.yield y.l) #[] #[] :: us).length := (List.getElem?_eq_some_iff.1 hu).1
    rw [List.getElem?_eq_getElem hju] at hu
    simp only [Option.some.injEq] at hu
    rw [Base.get, if_pos (by unfold GH; simp at hju; omega), ← htm]
    simp only [Array.getD_eq_getD_getElem?]
    rw [Array.getElem?_append_left (by simpa using hju)]
    simp only [List.getElem?_toArray, List.getElem?_eq_getElem hju, Option.getD_some]
    exact hu
  have hinit : Sim C (initStY caps) { tmps := tm, defers := [] } w (fun s => if s = YN then some (y.l, 0) else none) Fz Fy := by
    refine { defers := fun d hd => by simp at hd, dist := .nil, size := ?_, small := hargs.2, env := fun j v hj => ⟨trivial, ?_⟩, blk := fun s b hsb => by simp [initStY, lk] at hsb, live := fun s hs => by simp [initStY, lk] at hs, inj := fun s t hs => by simp [initStY, lk] at hs, zy := hzy, yl := hyl', gl := hgl, z0 := fun b hb => .inl hb, y0 := fun b hb => .inl trivial, below := .of_below (Below.refl _ _), big := Nat.le_refl _, fm := fun b hb => ⟨(hM0 b hb).1, (hM0 b hb).2, fun s hs => by simp [initStY, lk] at hs⟩, yd := fun y' e => ?_, mm := fun b hb => .inr hb, lp := fun _ e => (by cases e) }
    · rw [← htm]; simp [hlen, C]; omega
    · simp only [initStY, lk] at hj
      split at hj
      · rename_i e0; subst e0
        simp only [Option.some.injEq] at hj; subst hj
        rw [hget 0 _ rfl]
        exact .yv y.l (by simp)
      · rename_i e0
        rw [lk_initEnv] at hj
        split at hj
        · rename_i h1
          simp only [Option.map_eq_some_iff] at hj
          obtain ⟨p, hp, rfl⟩ := hj
          obtain ⟨u, hu, hru⟩ := hrep (j - 1) p hp
          refine .fv _ _ _ ?_
          rw [hget j u (by obtain ⟨i, rfl⟩ : ∃ i, j = i + 1 := ⟨j - 1, by omega⟩
                           simpa using hu)]
          exact hru
        · simp at hj
    · have e' : y = y' := by simpa [C] using e
      subst e'
      exact ⟨by simp, hJ, by simp [C, hn1], fun b _ hb => .inl hb, fun b hb => .inr hb⟩
  have hYok : YOk G C := ⟨fun xs st' e => by
    rw [hyl] at e
    simp only [Option.some.injEq, Prod.mk.injEq] at e
    obtain ⟨rfl, rfl⟩ := e
    exact ⟨zs, y, rfl, rfl, hround⟩⟩
  refine exec_sound hT hC hD c C _ _ _ _ _ _ _ _ _ 0 rfl hYok hinit hx fun M' a' w' μ' Fz' Fy' hM h' => ?_
  have hq : LeavesInM (FR none) 0 G.P fn a'.tmps (fun e w' => (∃ v, e = .returned v) ∧ ∃ M', y.J zs.length M' w') a'.defers .returning w' := by
    refine leaves_marks (own := fun b => C.mine b ∧ Fy' b) a'.defers w' (fun d hd => ?_) h'.dist fun w'' hw => ?_
    · obtain ⟨D, e1, e2, e3, e4⟩ := h'.defers d hd
      exact ⟨D, e1, ⟨e3 rfl, e2⟩, e4⟩
    obtain ⟨us', k2, k1, k3⟩ := slotsA_sound hT h' hs
    refine ⟨pack us', ?_, ⟨_, rfl⟩, M', ?_⟩
    · rw [results_eq, Array.mapM_eq_mapM_toList]
      simp only [Sem.run_bind, Sem.run_map]
      rw [k1 w'' hw.cell]
      simp only [Result.andThen_ok, Sem.run_pure]
      congr 1
      match us' with
      | [] => rfl
      | [u] => rfl
      | u :: u' :: us'' => simp [pack]
    · obtain ⟨_, y2, y3, y4, _⟩ := h'.yd y rfl
      rw [htr] at y2
      have hcells : ∀ (b : Nat) (c : Array Value) (e : TypeId) (fr : Nat × Nat), w'.heap[b]? = some (.cells c e fr) → w''.heap[b]? = some (.cells c e fr) := fun b c e fr hb => by
        rcases hw.blk b with k | ⟨_, ds, k⟩
        · exact k.trans hb
        · rw [k] at hb; cases hb
      refine y.stab _ _ _ _ y2 ⟨hw.os, hw.tape, hw.output, by rw [hw.size]; exact Nat.le_refl _, fun b c e fr hb => ⟨c, hcells b c e fr hb, rfl⟩, fun b hb => ?_⟩
      rcases hw.blk b with k | ⟨⟨k1, k2⟩, _⟩
      · exact k
      · exfalso
        rcases hb with hb | hb
        · rcases k1 with k1 | k1
          · have : C.B = w.heap.size := rfl
            have := hb.1
            omega
          · exact (h'.fm b (hM.sub b k1)).2.1 k2
        · exact (h'.fm b hb).2.1 k2
  rcases he with rfl | rfl <;> exact hq
/-- The frame of an iterator to which blocks are handed over. -/
def initStH (bs : List (Nat × Blk)) (caps : List V) : St := { env := (0, .yv) :: parEnv 1 caps, blk := bs }
/-- WHAT SUCH AN ITERATOR'S BODY COMES TO. -/
theorem it_of_execH (hT : TOk G) (hC : CtxOk G) {zs : List (List FV)} {st : Option Nat} (hyl : G.yl = some (some zs, st)) {k : FuncId} {fn : Func} {c : Code} (hf : G.P.funcs[k]? = some fn) (hb : fn.body = some c) {L : Live} {D : Drawer} (hD : DrawOk G fn.ntmps D) (n : Nat)
    {bs : List (Nat × Blk)} {caps : List V} (hargs : caps.length + 1 ≤ fn.ntmps ∧ fn.ntmps ≤ 90000) {e : Ex} {σ : St} (hx : exec G L fn.ntmps D n c (initStH bs caps) = some (e, σ)) (he : e = .normal ∨ e = .ret) (htr : σ.tr.length = zs.length) {vs : List V} (hs : slotsA G σ fn.results.toList = some vs) :
    ItH G.P k bs caps zs st := by
  intro w Fz Fy M0 μ us y hzy hyl' hYm _ hlen hrep hblk hlive hinj hgl hn1 hM0 hJ hround
  refine calls_of_marks hf hb ?_
  let C : Base := { N := fn.ntmps, B := w.heap.size, w0 := w, Fz0 := Fz, X := fun b => M0 b ∨ y.H b, M := M0, yl := some y }
  generalize htm : (Value.func (.yield y.l) #[] #[] :: us).toArray ++ Array.replicate (fn.ntmps - (Value.func (.yield y.l) #[] #[] :: us).toArray.size) undef = tm
  have hget : ∀ j u, (Value.func (.yield y.l) #[] #[] :: us)[j]? = some u → C.get { tmps := tm, defers := [] } j = u := fun j u hu => by
    have hju : j < (Value.func (.yield y.l) #[] #[] :: us).length := (List.getElem?_eq_some_iff.1 hu).1
    rw [List.getElem?_eq_getElem hju] at hu
    simp only [Option.some.injEq] at hu
    rw [Base.get, if_pos (by unfold GH; simp at hju; omega), ← htm]
    simp only [Array.getD_eq_getD_getElem?]
    rw [Array.getElem?_append_left (by simpa using hju)]
    simp only [List.getElem?_toArray, List.getElem?_eq_getElem hju, Option.getD_some]
    exact hu
  have hinit : Sim C (initStH bs caps) { tmps := tm, defers := [] } w μ Fz Fy := by
    refine { defers := fun d hd => by simp at hd, dist := .nil, size := ?_, small := hargs.2, env := fun j v hj => ⟨trivial, ?_⟩, blk := hblk, live := fun s hs b base hm => ⟨.inr (.inr (hlive s hs b base hm).1), (hlive s hs b base hm).2.1, (hlive s hs b base hm).2.2.1⟩, inj := hinj, zy := hzy, yl := hyl', gl := hgl, z0 := fun b hb => .inl hb, y0 := fun b hb => .inl trivial, below := .of_below (Below.refl _ _), big := Nat.le_refl _, fm := fun b hb => ⟨(hM0 b hb).1, (hM0 b hb).2, fun s hs base hm => (hlive s hs b base hm).2.2.2 hb⟩, yd := fun y' e => ?_, mm := fun b hb => .inr (.inl hb), lp := fun _ e => (by cases e) }
    · rw [← htm]; simp [hlen, C]; omega
    · simp only [initStH, lk] at hj
      split at hj
      · rename_i e0; subst e0
        simp only [Option.some.injEq] at hj; subst hj
        rw [hget 0 _ rfl]
        exact .yv y.l hYm
      · rename_i e0
        rw [lk_parEnv] at hj
        split at hj
        · rename_i h1
          obtain ⟨u, hu, hru⟩ := hrep (j - 1) v hj
          rw [hget j u (by obtain ⟨i, rfl⟩ : ∃ i, j = i + 1 := ⟨j - 1, by omega⟩
                           simpa using hu)]
          exact hru
        · simp at hj
    · have e' : y = y' := by simpa [C] using e
      subst e'
      exact ⟨hYm, hJ, by simp [C, hn1], fun b _ hb => hb, fun b hb => .inr (.inl hb)⟩
  have hYok : YOk G C := ⟨fun xs st' e => by
    rw [hyl] at e
    simp only [Option.some.injEq, Prod.mk.injEq] at e
    obtain ⟨rfl, rfl⟩ := e
    exact ⟨zs, y, rfl, rfl, hround⟩⟩
  refine exec_sound hT hC hD c C _ _ _ _ _ _ _ _ _ 0 rfl hYok hinit hx fun M' a' w' μ' Fz' Fy' hM h' => ?_
  have hq : LeavesInM (FR none) 0 G.P fn a'.tmps (fun e w' => (∃ v, e = .returned v) ∧ ∃ M', y.J zs.length M' w') a'.defers .returning w' := by
    refine leaves_marks (own := fun b => C.mine b ∧ Fy' b) a'.defers w' (fun d hd => ?_) h'.dist fun w'' hw => ?_
    · obtain ⟨D, e1, e2, e3, e4⟩ := h'.defers d hd
      exact ⟨D, e1, ⟨e3 rfl, e2⟩, e4⟩
    obtain ⟨us', k2, k1, k3⟩ := slotsA_sound hT h' hs
    refine ⟨pack us', ?_, ⟨_, rfl⟩, M', ?_⟩
    · rw [results_eq, Array.mapM_eq_mapM_toList]
      simp only [Sem.run_bind, Sem.run_map]
      rw [k1 w'' hw.cell]
      simp only [Result.andThen_ok, Sem.run_pure]
      congr 1
      match us' with
      | [] => rfl
      | [u] => rfl
      | u :: u' :: us'' => simp [pack]
    · obtain ⟨_, y2, y3, y4, _⟩ := h'.yd y rfl
      rw [htr] at y2
      have hcells : ∀ (b : Nat) (c : Array Value) (e : TypeId) (fr : Nat × Nat), w'.heap[b]? = some (.cells c e fr) → w''.heap[b]? = some (.cells c e fr) := fun b c e fr hb => by
        rcases hw.blk b with k | ⟨_, ds, k⟩
        · exact k.trans hb
        · rw [k] at hb; cases hb
      refine y.stab _ _ _ _ y2 ⟨hw.os, hw.tape, hw.output, by rw [hw.size]; exact Nat.le_refl _, fun b c e fr hb => ⟨c, hcells b c e fr hb, rfl⟩, fun b hb => ?_⟩
      rcases hw.blk b with k | ⟨⟨k1, k2⟩, _⟩
      · exact k
      · exfalso
        rcases hb with hb | hb
        · rcases k1 with k1 | k1
          · have : C.B = w.heap.size := rfl
            have := hb.1
            omega
          · rcases k1 with k1 | k1
            · exact (h'.fm b (hM.sub b k1)).2.1 k2
            · exact hb.2 k1
        · exact (h'.fm b hb).2.1 k2
  rcases he with rfl | rfl <;> exact hq
end
end Go.Proofs.Ytidiigajhbegeaa.E
namespace Go.Proofs.Ytidiigajhbegeaa.E
open Go Go.RowKit
set_option linter.unusedVariables false

def zeq : Value → FV → Bool
  | .int k n, .int j m => decide (k = j) && decide (n = m)
  | .bool a, .bool b => a == b
  | .string s, .str t => s.data.toList.isEmpty && t.data.toList.isEmpty
  | .slice none 0 0, .sl true 0 [] => true
  | .pointer none, .nilpt => true
  | .nilFunc, .nilfn => true
  | .nilIface, .nilif => true
  | .map none, .nilmp => true
  | _, _ => false
def zlist : List Value → List FV → Bool
  | [], [] => true
  | v :: vs, x :: xs => zeq v x && zlist vs xs
  | _, _ => false
theorem zeq_sound {v : Value} {x : FV} (h : zeq v x = true) : v = cval x ∧ zgood x = true := by
  unfold zeq at h
  split at h
  · simp only [Bool.and_eq_true, decide_eq_true_eq] at h; obtain ⟨rfl, rfl⟩ := h; exact ⟨rfl, rfl⟩
  · simp only [beq_iff_eq] at h; subst h; exact ⟨rfl, rfl⟩
  · rename_i s t
    simp only [Bool.and_eq_true, List.isEmpty_iff] at h
    have : s = t := by cases s; cases t; simp only [ByteArray.mk.injEq]; apply Array.toList_inj.1; rw [h.1, h.2]
    subst this; exact ⟨rfl, rfl⟩
  · exact ⟨rfl, rfl⟩
  · exact ⟨rfl, rfl⟩
  · exact ⟨rfl, rfl⟩
  · exact ⟨rfl, rfl⟩
  · exact ⟨rfl, rfl⟩
  · simp at h
theorem zlist_sound : ∀ {vs : List Value} {xs : List FV}, zlist vs xs = true → vs = xs.map cval ∧ xs.all zgood = true
  | [], [], _ => ⟨rfl, rfl⟩
  | v :: vs, x :: xs, h => by
    simp only [zlist, Bool.and_eq_true] at h
    obtain ⟨h1, h2⟩ := zeq_sound h.1
    obtain ⟨h3, h4⟩ := zlist_sound h.2
    exact ⟨by simp [h1, h3], by simp [h2, h4]⟩
  | [], _ :: _, h => by simp [zlist] at h
  | _ :: _, [], h => by simp [zlist] at h
def pairsEq : List (Nat × Nat) → List (Nat × Nat) → Bool
  | [], [] => true
  | (a, b) :: r, (c, d) :: s => decide (a = c) && decide (b = d) && pairsEq r s
  | _, _ => false
theorem pairsEq_sound : ∀ {xs ys : List (Nat × Nat)}, pairsEq xs ys = true → xs = ys
  | [], [], _ => rfl
  | (a, b) :: r, (c, d) :: s, h => by
    simp only [pairsEq, Bool.and_eq_true, decide_eq_true_eq] at h
    obtain ⟨⟨rfl, rfl⟩, h⟩ := h
    rw [pairsEq_sound h]
  | [], _ :: _, h => by simp [pairsEq] at h
  | _ :: _, [], h => by simp [pairsEq] at h
def kindOk (d : TypeDesc) (k : TK) : Bool :=
  match d, k with
  | .struct fields, .struct fs => pairsEq (fields.toList.map fun f => (f.offset, f.type)) fs
  | .array n e, .array m f => decide (n = m) && decide (e = f)
  | .slice e, .slice f => decide (e = f)
  | .map a b, .map c d => decide (a = c) && decide (b = d)
  | .int k, .int j => decide (k = j)
  | .pointer e, .ptr f => decide (e = f)
  | .bool, .bool => true
  | .string, .string => true
  | .struct _, .other => false
  | .array _ _, .other => false
  | _, .other => true
  | _, _ => false
theorem kindOk_sound {d : TypeDesc} {k : TK} (h : kindOk d k = true) : KindIs d k := by
  cases k with
  | other => refine ⟨fun fs e => ?_, fun n e he => ?_⟩
             · subst e; simp [kindOk] at h
             · subst he; simp [kindOk] at h
  | struct fs => cases d <;> simp [kindOk] at h; exact ⟨_, rfl, pairsEq_sound h⟩
  | int k => cases d <;> simp [kindOk] at h; subst h; rfl
  | ptr e => cases d <;> simp [kindOk] at h; subst h; rfl
  | bool => cases d <;> simp [kindOk] at h; rfl
  | string => cases d <;> simp [kindOk] at h; rfl
  | slice e => cases d <;> simp [kindOk] at h; subst h; rfl
  | array n e => cases d <;> simp [kindOk] at h; obtain ⟨rfl, rfl⟩ := h; rfl
  | map a b => cases d <;> simp [kindOk] at h; obtain ⟨rfl, rfl⟩ := h; rfl
def tiChk (P : Program) (t : Nat) (ti : TI) : Bool :=
  match P.info? t, P.underlying t with
  | some i, some d => decide (i.size = ti.size) && decide (i.bytes = ti.bytes) && (match i.zero with | some z => zlist z.cells.toList ti.zero | none => false) && decide (ti.zero.length = ti.size) && kindOk d ti.kind && (ti.kind.agg || (match i.zero with | some (.agg _) => false | _ => true))
  | _, _ => false
theorem tiChk_sound {P : Program} {t : Nat} {ti : TI} (h : tiChk P t ti = true) : TIok P t ti := by
  unfold tiChk at h
  split at h
  · rename_i i d hi hd
    simp only [Bool.and_eq_true, decide_eq_true_eq] at h
    obtain ⟨⟨⟨⟨⟨h1, h2⟩, h3⟩, h4⟩, h5⟩, _⟩ := h
    cases hz : i.zero with
    | none => simp [hz] at h3
    | some z =>
      simp only [hz] at h3
      obtain ⟨z1, z2⟩ := zlist_sound h3
      exact { info := ⟨i, hi, h1, h2, z, hz, z1⟩, good := z2, zsize := h4, under := ⟨d, hd, kindOk_sound h5⟩ }
  · simp at h
theorem tiChk_zero {P : Program} {t : Nat} {ti : TI} (h : tiChk P t ti = true) (ha : ti.kind.agg = false) {z : FV} (hz : ti.zero = [z]) (w : World) : (zeroValue t).run P w = .ok (cval z) w := by
  unfold tiChk at h
  split at h
  · rename_i i d hi hd
    simp only [Bool.and_eq_true, decide_eq_true_eq] at h
    obtain ⟨⟨⟨⟨⟨h1, h2⟩, h3⟩, h4⟩, h5⟩, h6⟩ := h
    cases hzz : i.zero with
    | none => simp [hzz] at h3
    | some v =>
      simp only [hzz] at h3
      obtain ⟨z1, z2⟩ := zlist_sound h3
      rw [hz] at z1
      simp only [hzz, ha, Bool.false_or] at h6
      have hv : v.cells = #[v] := by cases v <;> first | rfl | simp at h6
      rw [hv] at z1
      have e : v = cval z := by simpa using z1
      simp [zeroValue, typeInfo, hi, hzz, e]
  · simp at h
def tblChk (P : Program) (tbl : List (Nat × TI)) : Bool := tbl.all fun e => tiChk P e.1 e.2
theorem lk_mem {α : Type} {k : Nat} {v : α} : ∀ {l : List (Nat × α)}, lk k l = some v → (k, v) ∈ l
  | [], h => by simp [lk] at h
  | (j, u) :: r, h => by
    simp only [lk] at h
    split at h
    · rename_i e; simp only [Option.some.injEq] at h; subst e; subst h; simp
    · exact List.mem_cons_of_mem _ (lk_mem h)
theorem TOk_of_chk {G : Pg} (h : tblChk G.P G.tbl = true) (hE : ∀ t n, lk t G.eqs = some n → EqIs G.P t n)
    (hK : ∀ t n, t ∈ G.keys → lk t G.eqs = some n → ∀ (xs : Array Value) (em : Bool) (w : World), eqvs n xs.toList xs.toList = some true → (Instr.checkKey em 10000 t (.agg xs)).run G.P w = .ok () w) : TOk G := by
  simp only [tblChk, List.all_eq_true] at h
  exact ⟨fun t ti ht => tiChk_sound (h (t, ti) (lk_mem ht)), hE, hK, fun t ti z ht ha hz w => tiChk_zero (h (t, ti) (lk_mem ht)) ha hz w⟩

/-! ### Lists of numbers -/
def ints (l : List Int) : List FV := l.map (.int .i64)
@[simp] theorem ints_nil : ints [] = [] := rfl
@[simp] theorem ints_cons (x : Int) (l : List Int) : ints (x :: l) = .int .i64 x :: ints l := rfl
@[simp] theorem ints_length (l : List Int) : (ints l).length = l.length := by simp [ints]
@[simp] theorem ints_append (a b : List Int) : ints (a ++ b) = ints a ++ ints b := by simp [ints]
@[simp] theorem ints_get (l : List Int) (i : Nat) : (ints l)[i]? = (l[i]?).map (.int .i64) := by simp [ints]
@[simp] theorem ints_flat (l : List Int) : (ints l).all flat = true := by simp [ints, flat, flat1]
@[simp] theorem ints_take (l : List Int) (n : Nat) : (ints l).take n = ints (l.take n) := by simp [ints, List.map_take]
@[simp] theorem ints_drop (l : List Int) (n : Nat) : (ints l).drop n = ints (l.drop n) := by simp [ints, List.map_drop]
@[simp] theorem ints_set (l : List Int) (n : Nat) (x : Int) : (ints l).set n (.int .i64 x) = ints (l.set n x) := by simp [ints, List.map_set]
end Go.Proofs.Ytidiigajhbegeaa.E
