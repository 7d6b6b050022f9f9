/-
  The engine, part d: loads, addresses, slices, parts: operations that read, and make no memory. Conditions: none; it is stated of any program and table of its types.
-/
import Derived.Test.YtoafhoihigfllaaEc
namespace Go.Proofs.Ytoafhoihigfllaa.E
open Go Go.RowKit
set_option linter.unusedVariables false

theorem add_zero' (a : Addr) (h : a.spot = none) (k : Nat) : a.add k = ⟨a.block, a.off + k, none⟩ := by
  unfold Addr.add
  split
  · rename_i e; subst e; cases a; simp_all
  · cases a; simp_all
theorem run_loadCellsFrom {P : Program} (f : Nat → Value) (a : Addr) (w : World) : ∀ (n i : Nat) (acc : Array Value), (∀ j, j < n → w.cell? (a.add (i + j)) = some (f (i + j))) →
    (loadCellsFrom a i n acc).run P w = .ok (acc ++ ((List.range n).map fun j => f (i + j)).toArray) w := by
  intro n
  induction n with
  | zero => intro i acc _; simp [loadCellsFrom]
  | succ n ih =>
    intro i acc h
    have h0 := h 0 (by omega)
    simp only [Nat.add_zero] at h0
    simp only [loadCellsFrom, Sem.run_bind, run_load, h0, Result.andThen_ok]
    rw [ih (i + 1) _ (fun j hj => by have := h (j + 1) (by omega); rwa [show i + (j + 1) = i + 1 + j from by omega] at this)]
    congr 1
    rw [List.range_succ_eq_map]
    simp only [List.map_cons, List.map_map, Nat.add_zero]
    apply Array.toList_inj.1
    simp only [Array.toList_append, Array.toList_push, List.append_assoc, List.cons_append, List.nil_append]
    congr 2
    apply List.map_congr_left
    intro j _
    simp only [Function.comp]
    congr 1; omega
theorem run_loadCells' {P : Program} (f : Nat → Value) (a : Addr) (w : World) (n : Nat) (h : ∀ j, j < n → w.cell? (a.add j) = some (f j)) :
    (loadCells a n).run P w = .ok ((List.range n).map f).toArray w := by
  have := run_loadCellsFrom (P := P) f a w n 0 #[] (by simpa using h)
  simpa [loadCells] using this

section types
variable {G : Pg} (hT : TOk G) {t : Nat} {ti : TI} (ht : lk t G.tbl = some ti) (w : World)
include hT ht
theorem run_sizeOf' : (sizeOf t).run G.P w = .ok ti.size w := by
  obtain ⟨i, hi, hs, _⟩ := (hT t ti ht).info
  simp [sizeOf, typeInfo, hi, hs]
theorem run_isAgg' : (isAgg t).run G.P w = .ok ti.kind.agg w := by
  obtain ⟨d, hd, hk⟩ := (hT t ti ht).under
  cases hkd : ti.kind with
  | other =>
    simp only [hkd, KindIs] at hk
    cases d <;> first
      | (simp [isAgg, underlying, hd, TK.agg]; done)
      | exact absurd rfl (hk.1 _)
      | exact absurd rfl (hk.2 _ _)
  | int => simp only [hkd, KindIs] at hk; obtain ⟨k, rfl⟩ := hk; simp [isAgg, underlying, hd, TK.agg]
  | struct fs => simp only [hkd, KindIs] at hk; obtain ⟨k, rfl, _⟩ := hk; simp [isAgg, underlying, hd, TK.agg]
  | _ => simp only [hkd, KindIs] at hk; subst hk; simp [isAgg, underlying, hd, TK.agg]
end types

def pres (σ : St) (s : Nat) : Bool := (lk s σ.blk).isSome
theorem pres_sh {σ : St} {s : Nat} (h : pres σ s = true) : shs σ s ≠ none := by
  simp only [pres, Option.isSome_iff_exists] at h
  obtain ⟨b, hb⟩ := h
  simp [shs, hb]

/-- The n cells from a pointer on. -/
def look (σ : St) (p : V) (n : Nat) : Option (List V) :=
  match p with
  | .fv ro (.pt cells off) => if off + n ≤ cells.length then some (((cells.drop off).take n).map (nrm ro)) else none
  | .fv ro (.rb f pre post) => if n = 1 then some [.fv ro (.fn (.func f) [] (pre ++ .rb f pre post :: post))] else none
  | .ptr s off => match lk s σ.blk with
    | some (.box cells) => if off + n ≤ cells.length then some ((cells.drop off).take n) else none
    | _ => none
  | .pel s i j => match lk s σ.blk with
    | some (.arr sz xs) => match xs[i]? with
      | some x => if j + n ≤ (cellsOf x).length then some ((((cellsOf x).drop j).take n).map (nrm false)) else none
      | none => none
    | _ => none
  | _ => none

section
variable {C : Base} {σ : St} {a : Act} {w : World} {μ : Mu} {Fz Fy : Nat → Prop}
theorem drop_take_get {α : Type} {l : List α} {off n j : Nat} {y : α} (h : ((l.drop off).take n)[j]? = some y) : l[off + j]? = some y ∧ j < n := by
  rw [List.getElem?_take] at h
  split at h
  · rename_i hj; rw [List.getElem?_drop] at h; exact ⟨h, hj⟩
  · simp at h
theorem cell_of_heap {b : Nat} {c : Array Value} {e : TypeId} {fr : Nat × Nat} {o : Nat} (hh : w.heap[b]? = some (.cells c e fr)) (ho : o < c.size) : w.cell? ⟨b, o, none⟩ = some (c.getD o undef) := by
  simp [World.cell?, hh, Array.getD, ho]
theorem look_sound (h : Sim C σ a w μ Fz Fy) {p : V} {n : Nat} {cs : List V} (hl : look σ p n = some cs) {v : Value} (hv : RepV μ (shs σ) Fz Fy w p v) :
    cs.length = n ∧ ∃ ad : Addr, v = .pointer (some ad) ∧ ad.spot = none ∧ ∀ (j : Nat) (y : V), cs[j]? = some y → ∃ u, w.cell? ⟨ad.block, ad.off + j, none⟩ = some u ∧ RepV μ (shs σ) Fz Fy w y u := by
  unfold look at hl
  split at hl
  · rename_i ro cells off
    split at hl
    · rename_i hn
      simp only [Option.some.injEq] at hl; subst hl
      cases hv with
      | fv ro x v hv =>
      cases hv with
      | pt cells off b o us hb hc hr =>
      refine ⟨by simp; omega, _, rfl, rfl, fun j y hj => ?_⟩
      simp only [List.getElem?_map, Option.map_eq_some_iff] at hj
      obtain ⟨y', hy', rfl⟩ := hj
      obtain ⟨h1, h2⟩ := drop_take_get hy'
      exact ⟨us (off + j), by rw [show o + off + j = o + (off + j) from by omega]; exact hc _ _ h1, rep_nrm (hr _ _ h1)⟩
    · simp at hl
  · rename_i ro f pre post
    split at hl
    · rename_i hn; subst hn
      simp only [Option.some.injEq] at hl; subst hl
      cases hv with
      | fv ro x v hv =>
      have hv0 := hv
      cases hv with
      | rb f pre post b o vp vq hb hs hs' hc hr hr' =>
      refine ⟨rfl, _, rfl, rfl, fun j y hj => ?_⟩
      cases j with
      | succ j => simp at hj
      | zero =>
      simp only [List.getElem?_cons_zero, Option.some.injEq] at hj
      subst hj
      refine ⟨_, hc, .fv _ _ _ (.fn _ _ _ _ _ rfl ?_ (by simp) fun j y hj => ?_)⟩
      · simp; omega
      · rcases Nat.lt_trichotomy j pre.length with hlt | heq | hgt
        · rw [List.getElem?_append_left hlt] at hj
          have := hr j y hj
          have e : ((vp ++ #[Value.pointer (some ⟨b, o, none⟩)] ++ vq).getD j undef) = vp.getD j undef := by
            have : j < vp.size := by omega
            simp [Array.getD_eq_getD_getElem?, Array.getElem?_append, this, show j < vp.size + 1 from by omega, Array.getElem_push]
          rw [e]; exact this
        · subst heq
          rw [List.getElem?_append_right (Nat.le_refl _)] at hj
          simp only [Nat.sub_self, List.getElem?_cons_zero, Option.some.injEq] at hj
          subst hj
          have e : ((vp ++ #[Value.pointer (some ⟨b, o, none⟩)] ++ vq).getD pre.length undef) = .pointer (some ⟨b, o, none⟩) := by
            simp [Array.getD_eq_getD_getElem?, Array.getElem?_append, ← hs]
          rw [e]; exact hv0
        · rw [List.getElem?_append_right (by omega)] at hj
          obtain ⟨k, hk⟩ : ∃ k, j - pre.length = k + 1 := ⟨j - pre.length - 1, by omega⟩
          rw [hk, List.getElem?_cons_succ] at hj
          have := hr' k y hj
          have e : ((vp ++ #[Value.pointer (some ⟨b, o, none⟩)] ++ vq).getD j undef) = vq.getD k undef := by
            have h1 : ¬ j < vp.size + 1 := by omega
            simp [Array.getD_eq_getD_getElem?, Array.getElem?_append, h1, show j - (vp.size + 1) = k from by omega]
          rw [e]; exact this
    · simp at hl
  · rename_i s off
    split at hl
    · rename_i cells hb
      split at hl
      · rename_i hn
        simp only [Option.some.injEq] at hl; subst hl
        have hB := h.blk s _ hb
        cases hB with
        | box _ b c e hm hh hc hr =>
        cases hv with
        | ptrx s off v hx => simp [shs, hb] at hx
        | ptr s off b' base hm' =>
        rw [hm] at hm'
        simp only [Option.some.injEq, Prod.mk.injEq] at hm'
        obtain ⟨rfl, rfl⟩ := hm'
        refine ⟨by simp; omega, _, rfl, rfl, fun j y hj => ?_⟩
        obtain ⟨h1, h2⟩ := drop_take_get hj
        exact ⟨_, by simpa using cell_of_heap hh (o := off + j) (by omega), hr _ _ h1⟩
      · simp at hl
    · simp at hl
  · rename_i s i j
    split at hl
    · rename_i sz xs hb
      split at hl
      · rename_i x hx
        split at hl
        · rename_i hn
          simp only [Option.some.injEq] at hl; subst hl
          have hB := h.blk s _ hb
          cases hB with
          | nil => simp at hx
          | arr _ _ b base c e hm hh hc hsz hr =>
          cases hv with
          | pelx s i j v hx' => simp [shs, hb] at hx'
          | pel s i j sz' n' b' base' hs' hi' hm' =>
          rw [hm] at hm'
          simp only [Option.some.injEq, Prod.mk.injEq] at hm'
          obtain ⟨rfl, rfl⟩ := hm'
          simp only [shs, hb, Option.map_some, shp, Option.some.injEq, Prod.mk.injEq] at hs'
          obtain ⟨rfl, rfl⟩ := hs'
          have hxl := ok_len (hsz i x hx)
          refine ⟨by simp; omega, _, rfl, rfl, fun k y hk => ?_⟩
          simp only [List.getElem?_map, Option.map_eq_some_iff] at hk
          obtain ⟨y', hy', rfl⟩ := hk
          obtain ⟨h1, h2⟩ := drop_take_get hy'
          have hi : i < xs.length := (List.getElem?_eq_some_iff.1 hx).1
          have hlt : (i + 1) * sz ≤ xs.length * sz := Nat.mul_le_mul_right _ hi
          rw [Nat.add_mul] at hlt
          refine ⟨_, by rw [show base + (i * sz + j) + k = base + (i * sz + (j + k)) from by omega]; exact cell_of_heap hh (by omega), rep_nrm (hr i x (j + k) y' hx h1)⟩
        · simp at hl
      · simp at hl
    · simp at hl
  · simp at hl

def allF : List V → Option (Bool × List FV)
  | [] => some (false, [])
  | .fv ro x :: r => match allF r with
    | some (q, xs) => some (ro || q, x :: xs)
    | none => none
  | _ => none
theorem allF_sound : ∀ {cs : List V} {ro : Bool} {xs : List FV}, allF cs = some (ro, xs) → xs.length = cs.length ∧ ∀ (j : Nat) (y : FV), xs[j]? = some y → ∃ q, cs[j]? = some (.fv q y) ∧ (q = true → ro = true)
  | [], ro, xs, h => by simp [allF] at h; obtain ⟨rfl, rfl⟩ := h; simp
  | .fv q x :: r, ro, xs, h => by
    simp only [allF] at h
    split at h
    · rename_i q' ys hr
      simp only [Option.some.injEq, Prod.mk.injEq] at h
      obtain ⟨rfl, rfl⟩ := h
      obtain ⟨h1, h2⟩ := allF_sound hr
      refine ⟨by simp [h1], fun j y hj => ?_⟩
      cases j with
      | zero => simp at hj; subst hj; exact ⟨q, rfl, fun e => by simp [e]⟩
      | succ j =>
        simp only [List.getElem?_cons_succ] at hj ⊢
        obtain ⟨q2, h3, h4⟩ := h2 j y hj
        exact ⟨q2, h3, fun e => by simp [h4 e]⟩
    · simp at h
  | .top :: r, ro, xs, h => by simp [allF] at h
  | .own _ _ _ :: r, ro, xs, h => by simp [allF] at h
  | .ptr _ _ :: r, ro, xs, h => by simp [allF] at h
  | .pel _ _ _ :: r, ro, xs, h => by simp [allF] at h
  | .agg _ :: r, ro, xs, h => by simp [allF] at h
  | .fn _ _ _ :: r, ro, xs, h => by simp [allF] at h
  | .map _ :: r, ro, xs, h => by simp [allF] at h
  | .tup _ :: r, ro, xs, h => by simp [allF] at h
theorem roF_mono (hzy : ∀ b, Fz b → Fy b) {q ro : Bool} (hq : q = true → ro = true) {x : FV} {v : Value} (h : RepF (roF Fz Fy q) w x v) : RepF (roF Fz Fy ro) w x v := by
  refine h.mono (fun b hb => ?_) (fun _ _ => rfl)
  cases q <;> cases ro <;> simp_all [roF]
theorem allF_rep (hzy : ∀ b, Fz b → Fy b) {sh : Mu} {cs : List V} {ro : Bool} {xs : List FV} (ha : allF cs = some (ro, xs)) (f : Nat → Value) (hr : ∀ (j : Nat) (y : V), cs[j]? = some y → RepV μ sh Fz Fy w y (f j)) :
    ∀ (j : Nat) (y : FV), xs[j]? = some y → RepF (roF Fz Fy ro) w y (f j) := by
  intro j y hj
  obtain ⟨q, h1, h2⟩ := (allF_sound ha).2 j y hj
  have := hr j _ h1
  cases this with
  | fv _ _ _ hx => exact roF_mono hzy h2 hx
def mkAgg (cs : List V) : V :=
  match allF cs with
  | some (ro, xs) => nrm ro (.agg xs)
  | none => .agg cs
theorem mkAgg_sound (hzy : ∀ b, Fz b → Fy b) {sh : Mu} {cs : List V} (vs : Array Value) (hs : vs.size = cs.length) (hr : ∀ (j : Nat) (y : V), cs[j]? = some y → RepV μ sh Fz Fy w y (vs.getD j undef)) :
    RepV μ sh Fz Fy w (mkAgg cs) (.agg vs) := by
  unfold mkAgg
  split
  · rename_i ro xs ha
    exact rep_nrm (.agg xs vs (by rw [hs, (allF_sound ha).1]) (allF_rep hzy ha _ hr))
  · exact .agg cs vs hs hr

def loadA (G : Pg) (σ : St) (t : Nat) (p : V) : Option V :=
  match lk t G.tbl with
  | some ti => match look σ p ti.size with
    | some cs => if ti.kind.agg then some (mkAgg cs) else match cs with
      | [c] => some c
      | _ => none
    | none => none
  | none => none
theorem loadA_sound {G : Pg} (hT : TOk G) (h : Sim C σ a w μ Fz Fy) {t : Nat} {p r : V} (hl : loadA G σ t p = some r) {v : Value} (hv : RepV μ (shs σ) Fz Fy w p v) :
    ∃ u, (Instr.loadAt t v).run G.P w = .ok u w ∧ RepV μ (shs σ) Fz Fy w r u := by
  unfold loadA at hl
  split at hl
  · rename_i ti hti
    split at hl
    · rename_i cs hcs
      obtain ⟨hlen, ad, rfl, hsp, hcell⟩ := look_sound h hcs hv
      simp only [Instr.loadAt, Instr.sureAddr, Sem.run_bind, Sem.run_pure, Result.andThen_ok, loadVar, run_isAgg' hT hti]
      split at hl
      · rename_i hag
        simp only [Option.some.injEq] at hl; subst hl
        have hx : ∀ j, j < ti.size → ∃ u, w.cell? (ad.add j) = some u ∧ ∀ y, cs[j]? = some y → RepV μ (shs σ) Fz Fy w y u := fun j hj => by
          have hj' : j < cs.length := by omega
          obtain ⟨u, h1, h2⟩ := hcell j cs[j] (List.getElem?_eq_getElem hj')
          refine ⟨u, by rw [add_zero' ad hsp]; exact h1, fun y hy => ?_⟩
          rw [List.getElem?_eq_getElem hj'] at hy
          simp only [Option.some.injEq] at hy; subst hy; exact h2
        obtain ⟨f, hf⟩ : ∃ f : Nat → Value, ∀ j, j < ti.size → w.cell? (ad.add j) = some (f j) ∧ ∀ y, cs[j]? = some y → RepV μ (shs σ) Fz Fy w y (f j) :=
          ⟨fun j => if hj : j < ti.size then (hx j hj).choose else undef, fun j hj => by simpa [hj] using (hx j hj).choose_spec⟩
        simp only [hag, if_true, Sem.run_bind, run_sizeOf' hT hti, Result.andThen_ok, run_loadCells' f ad w ti.size (fun j hj => (hf j hj).1), Sem.run_pure]
        refine ⟨_, rfl, mkAgg_sound h.zy _ (by simp [hlen]) fun j y hj => ?_⟩
        have hj' : j < ti.size := by rw [← hlen]; exact (List.getElem?_eq_some_iff.1 hj).1
        have e : (((List.range ti.size).map f).toArray.getD j undef) = f j := by simp [Array.getD_eq_getD_getElem?, hj']
        rw [e]; exact (hf j hj').2 y hj
      · rename_i hag
        split at hl
        · rename_i c
          simp only [Option.some.injEq] at hl; subst hl
          obtain ⟨u, h1, h2⟩ := hcell 0 c rfl
          have h1' : w.cell? ad = some u := by cases ad; simp_all
          have hag' : ti.kind.agg = false := by simpa using hag
          exact ⟨u, by simp only [hag', Bool.false_eq_true, if_false, run_load, h1'], h2⟩
        · simp at hl
    · simp at hl
  · simp at hl
end
end Go.Proofs.Ytoafhoihigfllaa.E
