/-
  The engine, part 7: regions that draw; rules for walks. Conditions: none.
-/
import Derived.Test.YtidiigajhbegeaaEq
namespace Go.Proofs.Ytidiigajhbegeaa.E
open Go Go.RowKit
set_option linter.unusedVariables false
set_option linter.unusedSimpArgs false

/-- The second state says all that the first says. -/
def Le (σ τ : St) : Prop := (∀ k v, lk k σ.env = some v → lk k τ.env = some v) ∧ ∀ s b, lk s σ.blk = some b → lk s τ.blk = some b
section
variable {σ τ : St} {G : Pg}
theorem pres_mono (H : Le σ τ) {s : Nat} (h : pres σ s = true) : pres τ s = true := by
  simp only [pres, Option.isSome_iff_exists] at h ⊢
  obtain ⟨b, hb⟩ := h
  exact ⟨b, H.2 _ _ hb⟩
theorem opd_mono (H : Le σ τ) {x : Operand} {v : V} (h : opd σ x = some v) : opd τ x = some v := by
  cases x with
  | tmp t =>
    simp only [opd] at h ⊢
    split at h
    · simp at h
    · rename_i hg; rw [if_neg hg]; exact H.1 _ _ h
  | const v => exact h
  | func f => exact h
  | global g => exact h
theorem look_mono (H : Le σ τ) {p : V} {n : Nat} {cs : List V} (h : look σ p n = some cs) : look τ p n = some cs := by
  unfold look at h ⊢
  split at h
  · exact h
  · exact h
  · split at h
    · rename_i hb; (try simp only [H.2 _ _ hb]); exact h
    · simp at h
  · split at h
    · rename_i hb; (try simp only [H.2 _ _ hb]); exact h
    · rename_i hb; (try simp only [H.2 _ _ hb]); exact h
    · simp at h
  · simp at h
theorem loadA_mono (H : Le σ τ) {t : Nat} {p r : V} (h : loadA G σ t p = some r) : loadA G τ t p = some r := by
  unfold loadA at h ⊢
  split at h
  · rename_i ti hti
    split at h
    · rename_i cs hl; (try simp only [hti, look_mono H hl]); exact h
    · simp at h
  · simp at h
theorem padd_mono (H : Le σ τ) {p r : V} {k : Nat} (h : padd σ p k = some r) : padd τ p k = some r := by
  unfold padd at h ⊢
  split at h
  · exact h
  · split at h
    · rename_i hp; (try simp only [pres_mono H hp, if_true]); exact h
    · simp at h
  · split at h
    · rename_i hp; (try simp only [pres_mono H hp, if_true]); exact h
    · simp at h
  · simp at h
theorem fieldA_mono (H : Le σ τ) {t : Nat} {p r : V} {i : Nat} (h : fieldA G σ t p i = some r) : fieldA G τ t p i = some r := by
  unfold fieldA at h ⊢
  split at h
  · rename_i e; (try simp only [e])
    split at h
    · rename_i e1; (try simp only [e1])
      split at h
      · rename_i e2; (try simp only [e2])
        split at h
        · simp at h
        · rename_i h0; rw [if_neg h0]; exact padd_mono H h
      · simp at h
    · simp at h
  · simp at h
theorem indexA_mono (H : Le σ τ) {t : Nat} {p r : V} {n : Int} (h : indexA G σ t p n = some r) : indexA G τ t p n = some r := by
  unfold indexA at h ⊢
  split at h
  · rename_i e; (try simp only [e])
    split at h
    · rename_i e1; (try simp only [e1])
      split at h
      · split at h
        · rename_i hb; (try simp only [H.2 _ _ hb]); exact h
        · rename_i hb; (try simp only [H.2 _ _ hb]); exact h
        · simp at h
      · exact h
      · simp at h
    · simp at h
  · rename_i e; (try simp only [e])
    split at h
    · rename_i e1; (try simp only [e1])
      split at h
      · rename_i h0; rw [if_pos h0]; exact padd_mono H h
      · simp at h
    · simp at h
  · simp at h
theorem subsl_mono (H : Le σ τ) {t : Nat} {p r : V} {lo : Int} {hi mx : Option Int} (h : subsl G σ t p lo hi mx = some r) : subsl G τ t p lo hi mx = some r := by
  unfold subsl at h ⊢
  split at h
  · rename_i e; (try simp only [e])
    split at h
    · rename_i e1; (try simp only [e1])
      split at h
      · split at h
        · rename_i hb; (try simp only [H.2 _ _ hb]); exact h
        · simp at h
      · exact h
      · simp at h
    · simp at h
  · simp at h
theorem vcells_mono (H : Le σ τ) {x : V} {cs : List V} (h : vcells σ x = some cs) : vcells τ x = some cs := by
  unfold vcells at h ⊢
  split at h
  · exact h
  · exact h
  · exact h
  · split at h
    · rename_i hp; (try simp only [pres_mono H hp, if_true]); exact h
    · simp at h
  · split at h
    · rename_i hp; (try simp only [pres_mono H hp, if_true]); exact h
    · simp at h
  · split at h
    · rename_i hp; (try simp only [pres_mono H hp, if_true]); exact h
    · simp at h
  · split at h
    · rename_i hp; (try simp only [pres_mono H hp, if_true]); exact h
    · simp at h
  · exact h
  · simp at h
theorem fillV_mono (H : Le σ τ) {pl : List (Nat × Nat)} : ∀ {ps : List (Nat × V)} {cells r : List V}, fillV σ pl cells ps = some r → fillV τ pl cells ps = some r
  | [], cells, r, h => by simpa [fillV] using h
  | (i, v) :: rest, cells, r, h => by
    simp only [fillV] at h ⊢
    split at h
    · rename_i e1 e2
      (try simp only [e1, vcells_mono H e2])
      split at h
      · rename_i h0; rw [if_pos h0]; exact fillV_mono H h
      · simp at h
    · simp at h
theorem opds_mono (H : Le σ τ) : ∀ {xs : List Operand} {vs : List V}, opds σ xs = some vs → opds τ xs = some vs
  | [], vs, h => by simpa [opds] using h
  | x :: r, vs, h => by
    simp only [opds] at h ⊢
    split at h
    · rename_i e1 e2
      simp only [opd_mono H e1, opds_mono H e2]; exact h
    · simp at h
theorem parts_mono (H : Le σ τ) : ∀ {xs : List (Nat × Operand)} {vs : List (Nat × V)}, parts σ xs = some vs → parts τ xs = some vs
  | [], vs, h => by simpa [parts] using h
  | (i, x) :: r, vs, h => by
    simp only [parts] at h ⊢
    split at h
    · rename_i e1 e2
      simp only [opd_mono H e1, parts_mono H e2]; exact h
    · simp at h
theorem buildA_mono (H : Le σ τ) {t : Nat} {ps : List (Nat × V)} {r : V} (h : buildA G σ t ps = some r) : buildA G τ t ps = some r := by
  unfold buildA at h ⊢
  split at h
  · rename_i e; (try simp only [e])
    split at h
    · rename_i e1; (try simp only [e1])
      simp only [Option.map_eq_some_iff] at h ⊢
      obtain ⟨x, hx, rfl⟩ := h
      exact ⟨x, fillV_mono H hx, rfl⟩
    · simp at h
  · rename_i e; (try simp only [e])
    split at h
    · rename_i e1; (try simp only [e1])
      simp only [Option.map_eq_some_iff] at h ⊢
      obtain ⟨x, hx, rfl⟩ := h
      exact ⟨x, fillV_mono H hx, rfl⟩
    · simp at h
  · simp at h
theorem nonnil_mono (H : Le σ τ) {x r : V} (h : nonnil σ x = some r) : nonnil τ x = some r := by
  unfold nonnil at h ⊢
  split at h
  · exact h
  · exact h
  · split at h
    · rename_i hp; (try simp only [pres_mono H hp, if_true]); exact h
    · simp at h
  · split at h
    · rename_i hp; (try simp only [pres_mono H hp, if_true]); exact h
    · simp at h
  · exact h
  · exact h
  · simp at h
theorem lenA_mono (H : Le σ τ) {t : Nat} {x : V} {n : Int} (h : lenA G σ t x = some n) : lenA G τ t x = some n := by
  unfold lenA at h ⊢
  split at h
  · rename_i e; (try simp only [e])
    split at h
    · rename_i hp; (try simp only [pres_mono H hp, if_true]); exact h
    · simp at h
  · rename_i e; (try simp only [e]); exact h
  · rename_i e; (try simp only [e]); exact h
  · simp at h
theorem popt_mono (H : Le σ τ) {x : Option Operand} {v : Option V} (h : popt σ x = some v) : popt τ x = some v := by
  cases x with
  | none => exact h
  | some y =>
    simp only [popt, Option.map_eq_some_iff] at h ⊢
    obtain ⟨u, hu, rfl⟩ := h
    exact ⟨u, opd_mono H hu, rfl⟩
theorem popA_mono (H : Le σ τ) {o : Op} {r : V} (h : popA G σ o = some r) : popA G τ o = some r := by
  unfold popA at h ⊢
  split at h
  · exact opd_mono H h
  · exact opd_mono H h
  · split at h
    · rename_i e; (try simp only [opd_mono H e])
      split at h
      · rename_i h0; rw [if_pos h0]; exact opd_mono H h
      · rename_i h0; rw [if_neg h0]; exact opd_mono H h
    · simp at h
  · split at h
    · rename_i e; (try simp only [opd_mono H e]); exact loadA_mono H h
    · simp at h
  · split at h
    · rename_i e; (try simp only [opd_mono H e]); exact nonnil_mono H h
    · simp at h
  · split at h
    · rename_i e1 e2; (try simp only [opd_mono H e1, opd_mono H e2]); exact h
    · rename_i e1 e2; (try simp only [opd_mono H e1, opd_mono H e2])
      split at h
      · rename_i e3; (try simp only [e3])
        split at h
        · rename_i h0; rw [if_pos (pres_mono H h0)]; exact h
        · simp at h
      · simp at h
    · simp at h
  · split at h
    · rename_i e1 e2 e3; (try simp only [opd_mono H e1, e2, e3]); exact h
    · simp at h
  · split at h
    · rename_i e1; (try simp only [opd_mono H e1]); exact h
    · simp at h
  · split at h
    · rename_i e1 e2; (try simp only [opds_mono H e1, opds_mono H e2]); exact h
    · simp at h
  · split at h
    · rename_i e1 e2 e3 e4
      simp only [opd_mono H e1, popt_mono H e2, popt_mono H e3, popt_mono H e4]
      split at h
      · rename_i d1 d2 d3
        (try simp only [d1, d2, d3])
        split at h
        · rename_i h0; rw [if_pos h0]; exact subsl_mono H h
        · simp at h
      · simp at h
    · simp at h
  · split at h
    · rename_i e1; (try simp only [opd_mono H e1]); exact fieldA_mono H h
    · simp at h
  · split at h
    · rename_i e1 e2; (try simp only [opd_mono H e1, opd_mono H e2])
      split at h
      · rename_i d; (try simp only [d]); exact indexA_mono H h
      · simp at h
    · simp at h
  · split at h
    · rename_i e1 e2; (try simp only [opd_mono H e1, e2]); exact h
    · simp at h
  · split at h
    · rename_i e1 e2 e3; (try simp only [opd_mono H e1, opd_mono H e2, e3]); exact h
    · rename_i e1 e2 e3; (try simp only [opd_mono H e1, opd_mono H e2, e3]); exact h
    · simp at h
  · split at h
    · rename_i e1; (try simp only [opd_mono H e1]); exact h
    · simp at h
  · split at h
    · rename_i e1; (try simp only [parts_mono H e1]); exact buildA_mono H h
    · simp at h
  · split at h
    · split at h
      · rename_i e1 e2
        (try simp only [e1, e2])
        split at h
        · rename_i e3
          simp only [opd_mono H e3]
          simp only [Option.map_eq_some_iff] at h ⊢
          obtain ⟨n, hn, rfl⟩ := h
          exact ⟨n, lenA_mono H hn, rfl⟩
        · simp at h
      · simp at h
    · split at h
      · rename_i e1
        (try simp only [e1])
        split at h
        · rename_i d1 d2; (try simp only [opd_mono H d1, opd_mono H d2]); exact h
        · simp at h
      · simp at h
    · split at h
      · rename_i e1
        (try simp only [e1])
        split at h
        · rename_i d1 d2; (try simp only [opd_mono H d1, opd_mono H d2]); exact h
        · simp at h
      · simp at h
    · simp at h
  · simp at h
theorem frzL_mono {f g : V → Option Fix} (hfg : ∀ v r, f v = some r → g v = some r) : ∀ {vs : List V} {r : List Nat × Bool × List FV}, frzL f vs = some r → frzL g vs = some r
  | [], r, h => by simpa [frzL] using h
  | v :: vs, r, h => by
    simp only [frzL] at h ⊢
    split at h
    · rename_i e1 e2
      simp only [hfg _ _ e1, frzL_mono hfg e2]; exact h
    · simp at h
theorem frz_mono (H : Le σ τ) : ∀ (n : Nat) {v : V} {r : Fix}, frz σ n v = some r → frz τ n v = some r
  | 0, v, r, h => by simp [frz] at h
  | n + 1, v, r, h => by
    have ih : ∀ v r, frz σ n v = some r → frz τ n v = some r := fun v r => frz_mono H n
    unfold frz at h ⊢
    split at h
    · exact h
    · split at h
      · rename_i hb; (try simp only [H.2 _ _ hb]); exact h
      · simp at h
    · split at h
      · rename_i hb; (try simp only [H.2 _ _ hb]); exact h
      · simp at h
    · split at h
      · rename_i hb; (try simp only [H.2 _ _ hb])
        split at h
        · rename_i e
          (try simp only [e])
          split at h
          · rename_i e1 e2; (try simp only [frzL_mono ih e1, frzL_mono ih e2]); exact h
          · simp at h
        · rename_i e
          (try simp only [e])
          split at h
          · rename_i e1; (try simp only [frzL_mono ih e1]); exact h
          · simp at h
      · simp at h
    · split at h
      · rename_i e1; (try simp only [frzL_mono ih e1]); exact h
      · simp at h
    · split at h
      · rename_i e1 e2; (try simp only [frzL_mono ih e1, frzL_mono ih e2]); exact h
      · simp at h
    · split at h
      · rename_i h0; rw [if_pos (pres_mono H h0)]; exact h
      · simp at h
    · simp at h
theorem argsA_mono (H : Le σ τ) : ∀ {vs : List V} {xs : List (Bool × FV)}, argsA σ vs = some xs → argsA τ vs = some xs
  | [], xs, h => by simpa [argsA] using h
  | v :: r, xs, h => by
    simp only [argsA] at h ⊢
    split at h
    · rename_i e1 e2
      simp only [frz_mono H _ e1, argsA_mono H e2]; exact h
    · simp at h
theorem elemA_mono (H : Le σ τ) {v : V} {r : List Nat × FV} (h : elemA σ v = some r) : elemA τ v = some r := by
  unfold elemA at h ⊢
  split at h
  · rename_i e1; (try simp only [frz_mono H _ e1]); exact h
  · simp at h
theorem elemsA_mono (H : Le σ τ) : ∀ {vs : List V} {r : List Nat × List FV}, elemsA σ vs = some r → elemsA τ vs = some r
  | [], r, h => by simpa [elemsA] using h
  | v :: vs, r, h => by
    simp only [elemsA] at h ⊢
    split at h
    · rename_i e1 e2
      simp only [elemA_mono H e1, elemsA_mono H e2]; exact h
    · simp at h
theorem guardA_mono (H : Le σ τ) {ops : List Oper} {o : Oper} {b : Bool} (h : guardA ops σ o = some b) : guardA ops τ o = some b := by
  unfold guardA at h ⊢
  split at h
  · rename_i e; (try simp only [e]); exact h
  · rename_i e; (try simp only [e])
    split at h
    · rename_i e1; (try simp only [e1])
      split at h
      · rename_i e2; (try simp only [e2])
        split at h
        · rename_i e3; (try simp only [opd_mono H e3]); exact h
        · rename_i e3; (try simp only [opd_mono H e3]); exact h
        · simp at h
      · simp at h
    · simp at h
end
end Go.Proofs.Ytidiigajhbegeaa.E
namespace Go.Proofs.Ytidiigajhbegeaa.E
open Go Go.RowKit
set_option linter.unusedVariables false
set_option linter.unusedSimpArgs false

/-! ### What an operation adds -/
def maker : Op → Bool
  | .alloc _ => true
  | .buildSlice _ _ _ => true
  | .makeSlice _ _ _ => true
  | .call ⟨.value _, _, _⟩ => true
  | .call ⟨.builtin .append, _, _⟩ => true
  | _ => false
def addRs (d : Nat) : List TV → Option (V × Option Blk)
  | [.us sz xs] => some (.own d 0 xs.length, some (.arr sz xs))
  | [.fv x] => some (.fv false x, none)
  | [.fv x, .fv y] => some (.tup [.fv false x, .fv false y], none)
  | _ => none
def addBs (G : Pg) (σ : St) (d t len : Nat) (ps : List (Nat × V)) : Option (V × Option Blk) :=
  if G.deep.contains t = true then none else match lk t G.tbl with
  | some ⟨_, _, _, .slice e⟩ => match lk e G.tbl with
    | some ti => match elemsA σ (ps.map (·.2)) with
      | some ([], ys) => if ps.map (·.1) = List.range len ∧ ys.all (cellsOK ti.size) = true ∧ len * ti.size ≤ 16777216 then some (.own d 0 len, some (.arr ti.size ys)) else none
      | _ => none
    | none => none
  | _ => none
def addMk (G : Pg) (d t : Nat) (l c : Int) : Option (V × Option Blk) :=
  match lk t G.tbl with
  | some ⟨_, _, _, .slice e⟩ => match lk e G.tbl with
    | some ti => if 0 ≤ l ∧ l ≤ c ∧ ti.bytes * c ≤ 281474976710656 ∧ c ≤ 9223372036854775807 ∧ ti.size ≠ 0 then some (.own d 0 l.toNat, some (.arr ti.size (List.replicate l.toNat (elemOf ti.zero)))) else none
    | none => none
  | _ => none
def addCall (G : Pg) (σ : St) (d : Nat) (f : V) (args : List V) : Option (V × Option Blk) :=
  match fnOf f with
  | some (k, first, captured) => match argsA σ (first ++ args ++ captured) with
    | some xs => match G.ctx k xs with
      | some res => addRs d res
      | none => none
    | none => none
  | none => none
def addAsg (G : Pg) (keep : List Nat) (d ty : Nat) (v : V) : Option (V × Option Blk) :=
  match v with
  | .own s off len => if (s == d || keep.contains s) = true then some (.own s off len, none) else none
  | .fv ro (.sl true sz []) => match lk ty G.tbl with
    | some ⟨_, _, _, .slice _⟩ => none
    | _ => some (.fv ro (.sl true sz []), none)
  | v => some (v, none)
def addApp (G : Pg) (σ : St) (d t : Nat) (x y : V) : Option (V × Option Blk) :=
  match lk t G.tbl with
  | some ⟨_, _, _, .slice e⟩ => match lk e G.tbl with
    | some ti => match srcA σ ti.size y with
      | some ys => match dstA σ ti.size x (!ys.isEmpty) with
        | some (none, xs) => if (xs.length + ys.length) * ti.bytes ≤ 140737488355328 ∧ ti.bytes ≠ 0 then some (.own d 0 (xs.length + ys.length), some (.arr ti.size (xs ++ ys))) else none
        | _ => none
      | none => none
    | none => none
  | _ => none
def addBs0 (G : Pg) (t len : Nat) : Option (V × Option Blk) :=
  match lk t G.tbl with
  | some ⟨_, _, _, .slice e⟩ => match lk e G.tbl with
    | some ti => if len = 0 then some (.fv false (.sl true ti.size []), none) else none
    | none => none
  | _ => none
def addA (G : Pg) (keep : List Nat) (σ : St) (d ty : Nat) : Op → Option (V × Option Blk)
  | .assign x => match opd σ x with
    | some v => addAsg G keep d ty v
    | none => none
  | .box _ _ => none
  | .makeMap _ _ => none
  | .lookup _ _ _ _ => none
  | .range _ _ => none
  | .entry _ => none
  | .alloc t => match lk t G.tbl with
    | some ti => some (.ptr d 0, some (.box (ti.zero.map (.fv false))))
    | none => none
  | .buildSlice t len ps => match parts σ ps.toList with
    | some [] => addBs0 G t len
    | some ps => addBs G σ d t len ps
    | none => none
  | .makeSlice t l c => match opd σ l, opd σ c with
    | some l, some c => match intN l, intN c with
      | some l, some c => addMk G d t l c
      | _, _ => none
    | _, _ => none
  | .call ⟨.builtin .append, args, ats⟩ => match args.toList, ats.toList with
    | [x, y], [t, t'] => if t = t' then match opd σ x, opd σ y with
        | some x, some y => addApp G σ d t x y
        | _, _ => none
      else none
    | _, _ => none
  | .call ⟨.value f, args, _⟩ => match opd σ f, opds σ args.toList with
    | some f, some args => addCall G σ d f args
    | _, _ => none
  | op => match popA G σ op with
    | some v => some (v, none)
    | none => none
theorem addA_maker {G : Pg} {keep : List Nat} {σ : St} {d ty : Nat} {op : Op} {v : V} {ob : Option Blk} (h : addA G keep σ d ty op = some (v, ob)) (hm : maker op = false) : ob = none := by
  unfold addA at h
  split at h
  · split at h
    · unfold addAsg at h
      split at h
      · split at h
        · simp only [Option.some.injEq, Prod.mk.injEq] at h; exact h.2.symm
        · cases h
      · split at h
        · cases h
        · simp only [Option.some.injEq, Prod.mk.injEq] at h; exact h.2.symm
      · simp only [Option.some.injEq, Prod.mk.injEq] at h; exact h.2.symm
    · cases h
  · cases h
  · cases h
  · cases h
  · cases h
  · cases h
  · simp [maker] at hm
  · simp [maker] at hm
  · simp [maker] at hm
  · simp [maker] at hm
  · simp [maker] at hm
  · split at h
    · simp only [Option.some.injEq, Prod.mk.injEq] at h; exact h.2.symm
    · cases h
theorem killV_id {d : Nat} {v : V} (h : ment 5 d v = false) : killV [d] v = v := by simp [killV, h]
theorem killB_id {d : Nat} {b : Blk} (h : ∀ y ∈ bcells b, ment 5 d y = false) : killB [d] b = b := by
  cases b with
  | arr => rfl
  | box cells =>
    simp only [killB]
    congr 1
    exact (List.map_congr_left fun y hy => killV_id (h y hy)).trans (List.map_id' cells)
  | lst sz n cells =>
    simp only [killB]
    congr 1
    exact (List.map_congr_left fun y hy => killV_id (h y hy)).trans (List.map_id' cells)
  | mp es =>
    simp only [killB]
    congr 1
    refine (List.map_congr_left (g := id) fun y hy => ?_).trans (List.map_id es)
    rw [killV_id (h y.2 (List.mem_map.2 ⟨y, hy, rfl⟩))]; rfl
  | mit mv since last seen => simp only [killB, killV_id (h mv (by simp [bcells]))]
structure Fresh (d : Nat) (τ : St) : Prop where
  env : ∀ k u, lk k τ.env = some u → ment 5 d u = false
  box : ∀ s b, lk s τ.blk = some b → ∀ y ∈ bcells b, ment 5 d y = false
  none : lk d τ.blk = none
theorem kill_env {d : Nat} {τ : St} (h : Fresh d τ) (k : Nat) : lk k ((τ.drop d).kill [d]).env = lk k τ.env := by
  simp only [St.kill, St.drop, lk_map]
  cases hk : lk k τ.env with
  | none => rfl
  | some u => simp [killV_id (h.env k u hk)]
theorem kill_blk {d : Nat} {τ : St} (h : Fresh d τ) (s : Nat) : lk s ((τ.drop d).kill [d]).blk = lk s τ.blk := by
  simp only [St.kill, St.drop, lk_map, lk_rm]
  by_cases e : s = d
  · subst e; simp [h.none]
  · simp only [e, if_false]
    cases hk : lk s τ.blk with
    | none => rfl
    | some b =>
      simp only [Option.map_some, killB_id (h.box s b hk)]
theorem mk'_env {d : Nat} {τ : St} (h : Fresh d τ) (b : Blk) (v : V) (k : Nat) : lk k (τ.mk' d b v).env = if k = d then some v else lk k τ.env := by
  simp only [St.mk', lk_put, kill_env h]
theorem mk'_blk {d : Nat} {τ : St} (h : Fresh d τ) (b : Blk) (v : V) (s : Nat) : lk s (τ.mk' d b v).blk = if s = d then some b else lk s τ.blk := by
  simp only [St.mk', lk_put, kill_blk h]

section
variable {π τ : St} {G : Pg}
/-- What the second state is behind an operation that adds. -/
structure Added (d : Nat) (v : V) (ob : Option Blk) (τ τ' : St) : Prop where
  env : ∀ k, lk k τ'.env = if k = d then some v else lk k τ.env
  blk : ∀ s, lk s τ'.blk = if s = d then ob.or (lk s τ.blk) else lk s τ.blk
  tr : τ'.tr = τ.tr
theorem added_mk {d : Nat} (h : Fresh d τ) (b : Blk) (v : V) : Added d v (some b) τ (τ.mk' d b v) :=
  ⟨mk'_env h b v, fun s => by rw [mk'_blk h]; simp, rfl⟩
theorem added_put (d : Nat) (v : V) (τ : St) : Added d v none τ { τ with env := put d v τ.env } :=
  ⟨fun k => lk_put d k v τ.env, fun s => by simp, rfl⟩
theorem addCall_step (H : Le π τ) {d : Nat} {f : V} {args : List V} {v : V} {ob : Option Blk} (h : addCall G π d f args = some (v, ob)) (hf : ob ≠ none → Fresh d τ) :
    ∃ τ', callX G τ d f args = some τ' ∧ Added d v ob τ τ' := by
  suffices h' : ∃ τ', callA G τ d f args = some τ' ∧ Added d v ob τ τ' by
    obtain ⟨τ', h1, h2⟩ := h'
    exact ⟨τ', by simp only [callX, h1], h2⟩
  unfold addCall at h
  unfold callA
  split at h
  · rename_i k first captured e
    (try simp only [e])
    split at h
    · rename_i xs e1
      simp only [argsA_mono H e1]
      split at h
      · rename_i res e2
        (try simp only [e2])
        unfold addRs at h
        split at h
        · rename_i sz ys
          simp only [Option.some.injEq, Prod.mk.injEq] at h
          obtain ⟨rfl, rfl⟩ := h
          have hn : nm d true 0 = d := by simp [nm]
          refine ⟨_, rfl, ?_⟩
          simp only [List.length_singleton, BEq.rfl, addRes, hn, packV]
          exact added_mk (hf (by simp)) (.arr sz ys) (.own d 0 ys.length)
        · simp only [Option.some.injEq, Prod.mk.injEq] at h
          obtain ⟨rfl, rfl⟩ := h
          refine ⟨_, rfl, ?_⟩
          simp only [List.length_singleton, BEq.rfl, addRes, packV]
          exact added_put d _ τ
        · simp only [Option.some.injEq, Prod.mk.injEq] at h
          obtain ⟨rfl, rfl⟩ := h
          exact ⟨_, rfl, added_put d _ τ⟩
        · simp at h
      · simp at h
    · simp at h
  · simp at h
theorem srcA_mono (H : Le π τ) {sz : Nat} {x : V} {ys : List FV} (h : srcA π sz x = some ys) : srcA τ sz x = some ys := by
  unfold srcA at h ⊢
  split at h
  · split at h
    · rename_i e; simp only [H.2 _ _ e]; exact h
    · cases h
  · exact h
  · cases h
theorem dstA_none {sz : Nat} {x : V} {more : Bool} {xs : List FV} (h : dstA π sz x more = some (none, xs)) : dstA τ sz x more = some (none, xs) := by
  unfold dstA at h ⊢
  split at h
  · split at h
    · split at h
      · simp at h
      · cases h
    · cases h
  · exact h
  · cases h
theorem subsl_ptr {G : Pg} {σ : St} {t s o : Nat} {lo : Int} {hi mx : Option Int} : subsl G σ t (.ptr s o) lo hi mx = none := by
  unfold subsl
  split
  · split <;> rfl
  · rfl
theorem addA_step (H : Le π τ) {keep : List Nat} {N d : Nat} {o : Oper} (hd : o.dst = some d) (hN : d < N) {v : V} {ob : Option Blk} (h : addA G keep π d o.type o.op = some (v, ob)) (hf : ob ≠ none → Fresh d τ) :
    ∃ τ', stepA G keep N τ o = some τ' ∧ Added d v ob τ τ' := by
  unfold addA at h
  unfold stepA
  simp only [hd, hN, if_true]
  split at h
  · rename_i x e
    simp only [e]
    split at h
    · rename_i v' hv
      simp only [opd_mono H hv]
      unfold addAsg at h
      unfold asgA
      split at h
      · rename_i s off len
        split at h
        · rename_i hc
          simp only [Option.some.injEq, Prod.mk.injEq] at h
          obtain ⟨rfl, rfl⟩ := h
          simp only [if_pos hc]
          exact ⟨_, rfl, added_put d _ τ⟩
        · cases h
      · split at h
        · cases h
        · rename_i hne
          simp only [Option.some.injEq, Prod.mk.injEq] at h
          obtain ⟨rfl, rfl⟩ := h
          refine ⟨_, ?_, added_put d _ τ⟩
          simp only
      · rename_i n1 n2
        simp only [Option.some.injEq, Prod.mk.injEq] at h
        obtain ⟨rfl, rfl⟩ := h
        refine ⟨_, ?_, added_put d _ τ⟩
        split
        · exact absurd rfl (n1 _ _ _)
        · exact absurd rfl (n2 _ _)
        · rfl
    · cases h
  · cases h
  · cases h
  · cases h
  · cases h
  · cases h
  · rename_i e
    simp only [e]
    split at h
    · rename_i ti hti
      simp only [Option.some.injEq, Prod.mk.injEq] at h
      obtain ⟨rfl, rfl⟩ := h
      exact ⟨_, by simp only [allocA, hti], added_mk (hf (by simp)) _ _⟩
    · simp at h
  · rename_i e
    simp only [e]
    split at h
    · rename_i hps
      simp only [parts_mono H hps]
      unfold addBs0 at h
      unfold bs0A
      split at h
      · rename_i e0; (try simp only [e0])
        split at h
        · rename_i ti e1; (try simp only [e1])
          split at h
          · rename_i hc
            simp only [Option.some.injEq, Prod.mk.injEq] at h
            obtain ⟨rfl, rfl⟩ := h
            rw [if_pos hc]
            exact ⟨_, rfl, added_put d _ τ⟩
          · cases h
        · cases h
      · cases h
    · rename_i ps hne hps
      simp only [parts_mono H hps]
      unfold addBs at h
      split at h
      · cases h
      rename_i hdeep
      unfold bsX
      rw [if_neg hdeep]
      unfold bsA
      split at h
      · rename_i e0; (try simp only [e0])
        split at h
        · rename_i ti e1; (try simp only [e1])
          split at h
          · rename_i ys e2
            simp only [elemsA_mono H e2]
            split at h
            · rename_i hc
              simp only [Option.some.injEq, Prod.mk.injEq] at h
              obtain ⟨rfl, rfl⟩ := h
              simp only [if_pos hc]
              exact ⟨_, rfl, added_mk (hf (by simp)) _ _⟩
            · simp at h
          · simp at h
        · simp at h
      · simp at h
    · simp at h
  · rename_i e
    simp only [e]
    split at h
    · rename_i h1 h2
      simp only [opd_mono H h1, opd_mono H h2]
      split at h
      · rename_i h3 h4
        (try simp only [h3, h4])
        unfold addMk at h
        unfold mkA
        split at h
        · rename_i e0; (try simp only [e0])
          split at h
          · rename_i ti e1; (try simp only [e1])
            split at h
            · rename_i hc
              simp only [Option.some.injEq, Prod.mk.injEq] at h
              obtain ⟨rfl, rfl⟩ := h
              rw [if_pos hc]
              exact ⟨_, rfl, added_mk (hf (by simp)) _ _⟩
            · simp at h
          · simp at h
        · simp at h
      · simp at h
    · simp at h
  · rename_i args ats e
    simp only [e]
    split at h
    · rename_i x y t t' e1 e2
      simp only [e1, e2]
      split at h
      · rename_i htt
        simp only [if_pos htt]
        split at h
        · rename_i xv yy hx hy
          simp only [opd_mono H hx, opd_mono H hy]
          unfold addApp at h
          unfold appA
          split at h
          · rename_i e3; (try simp only [e3])
            split at h
            · rename_i ti e4; (try simp only [e4])
              split at h
              · rename_i ys hys
                simp only [srcA_mono H hys]
                split at h
                · rename_i xs hxs
                  simp only [dstA_none hxs]
                  split at h
                  · rename_i hc
                    simp only [Option.some.injEq, Prod.mk.injEq] at h
                    obtain ⟨rfl, rfl⟩ := h
                    simp only [if_pos hc]
                    exact ⟨_, rfl, added_mk (hf (by simp)) _ _⟩
                  · cases h
                · cases h
              · cases h
            · cases h
          · cases h
        · cases h
      · cases h
    · cases h
  · rename_i e
    simp only [e]
    split at h
    · rename_i h1 h2
      simp only [opd_mono H h1, opds_mono H h2]
      exact addCall_step H h hf
    · simp at h
  · rename_i n1 n2 n3 n4 nr ne n5 n6 n7 n8 n9
    split at h
    · rename_i u hp
      simp only [Option.some.injEq, Prod.mk.injEq] at h
      obtain ⟨rfl, rfl⟩ := h
      split
      · rename_i e; exact absurd e (n1 _)
      · rename_i e; exact absurd e (n5 _)
      · rename_i e; exact absurd e (n2 _ _)
      · rename_i e; exact absurd e (n6 _ _ _)
      · rename_i src dst x e
        rw [e] at hp
        have hm := popA_mono H hp
        obtain ⟨q, k, n, hx⟩ : ∃ q k n, opd τ x = some (.fv q (.int k n)) := by
          unfold popA at hm
          simp only at hm
          split at hm
          · exact ⟨_, _, _, ‹_›⟩
          · cases hm
        simp only [hx, hm]
        exact ⟨_, rfl, added_put d _ τ⟩
      · rename_i t x e
        rw [e] at hp
        have hm := popA_mono H hp
        split
        · rename_i s off hx
          exfalso
          unfold popA at hm
          simp only [hx, popt] at hm
          split at hm
          · rw [subsl_ptr] at hm; cases hm
          · cases hm
        · simp only [hm]
          exact ⟨_, rfl, added_put d _ τ⟩
      · rename_i e; exact absurd e (nr _ _)
      · rename_i e; exact absurd e (ne _)
      · rename_i e; exact absurd e (n3 _ _)
      · rename_i e; exact absurd e (n4 _ _ _ _)
      · rename_i e; exact absurd e (n7 _ _ _)
      · rename_i e; exact absurd e (n8 _ _)
      · rename_i e; exact absurd e (n9 _ _ _)
      · simp only [popA_mono H hp]
        exact ⟨_, rfl, added_put d _ τ⟩
    · simp at h
end
end Go.Proofs.Ytidiigajhbegeaa.E
namespace Go.Proofs.Ytidiigajhbegeaa.E
open Go Go.RowKit
set_option linter.unusedVariables false
set_option linter.unusedSimpArgs false

/-! ### What must have run ahead of an operation -/
def depMask (acc : List Nat) (o : Oper) : Nat := o.after.toList.foldr (fun e m => if Region.binds .any e then 2 ^ e.on ||| (acc.getD e.on 0 ||| m) else m) 0
def depTab : List Oper → List Nat → List Nat
  | [], acc => acc
  | o :: r, acc => depTab r (acc ++ [depMask acc o])
theorem depMask_sound {acc : List Nat} {o : Oper} {x : Nat} (h : (depMask acc o).testBit x = true) : ∃ e ∈ o.after.toList, Region.binds .any e = true ∧ (x = e.on ∨ (acc.getD e.on 0).testBit x = true) := by
  unfold depMask at h
  generalize o.after.toList = l at h ⊢
  induction l with
  | nil => simp at h
  | cons e r ih =>
    simp only [List.foldr_cons] at h
    split at h
    · rename_i hb
      simp only [Nat.testBit_or, Bool.or_eq_true, Nat.testBit_two_pow, decide_eq_true_eq] at h
      rcases h with h | h | h
      · exact ⟨e, by simp, hb, .inl h.symm⟩
      · exact ⟨e, by simp, hb, .inr h⟩
      · obtain ⟨e', h1, h2⟩ := ih h; exact ⟨e', by simp [h1], h2⟩
    · obtain ⟨e', h1, h2⟩ := ih h; exact ⟨e', by simp [h1], h2⟩
def DepOk (pre : List Oper) (acc : List Nat) : Prop := acc.length = pre.length ∧ ∀ i o, pre[i]? = some o → ∀ x, (acc.getD i 0).testBit x = true → ∃ e ∈ o.after.toList, Region.binds .any e = true ∧ (x = e.on ∨ (acc.getD e.on 0).testBit x = true)
theorem depTab_sound : ∀ (l pre : List Oper) (acc : List Nat), DepOk pre acc → DepOk (pre ++ l) (depTab l acc)
  | [], pre, acc, h => by simpa [depTab] using h
  | o :: r, pre, acc, h => by
    have hmore : ∀ j x, (acc.getD j 0).testBit x = true → ((acc ++ [depMask acc o]).getD j 0).testBit x = true := fun j x hx => by
      by_cases hj : j < acc.length
      · simpa [List.getD_eq_getElem?_getD, List.getElem?_append_left hj] using hx
      · simp [List.getD_eq_getElem?_getD, List.getElem?_eq_none (Nat.le_of_not_lt hj)] at hx
    have := depTab_sound r (pre ++ [o]) (acc ++ [depMask acc o]) ⟨by simp [h.1], fun i p hp x hx => by
      by_cases hi : i < pre.length
      · have hp' : pre[i]? = some p := by simpa [List.getElem?_append_left hi] using hp
        have hx' : (acc.getD i 0).testBit x = true := by
          have hi' : i < acc.length := by rw [h.1]; exact hi
          simpa [List.getD_eq_getElem?_getD, List.getElem?_append_left hi'] using hx
        obtain ⟨e, h1, h2, h3⟩ := h.2 i p hp' x hx'
        exact ⟨e, h1, h2, h3.imp id (hmore _ _)⟩
      · have hi2 : i = pre.length := by
          have := (List.getElem?_eq_some_iff.1 hp).1
          simp at this; omega
        subst hi2
        simp at hp
        subst hp
        have hx' : (depMask acc o).testBit x = true := by
          simpa [List.getD_eq_getElem?_getD, ← h.1] using hx
        obtain ⟨e, h1, h2, h3⟩ := depMask_sound hx'
        exact ⟨e, h1, h2, h3.imp id (hmore _ _)⟩⟩
    simpa [depTab] using this

/-! ### A plan: which slots an operation may read, and which blocks it may not know -/
abbrev Plan := List (List Nat × List Nat)
def dsts (ops : List Oper) (n : Nat) : List Nat := (ops.take n).map fun o => o.dst.getD 0
def makers (ops : List Oper) (n : Nat) : List Nat := ((ops.take n).filter fun o => maker o.op).map fun o => o.dst.getD 0
def allI {α : Type} (p : Nat → α → Bool) : Nat → List α → Bool
  | _, [] => true
  | i, x :: r => p i x && allI p (i + 1) r
theorem allI_get {α : Type} {p : Nat → α → Bool} : ∀ {l : List α} {k : Nat}, allI p k l = true → ∀ i x, l[i]? = some x → p (k + i) x = true
  | [], k, h, i, x, hx => by simp at hx
  | y :: r, k, h, i, x, hx => by
    simp only [allI, Bool.and_eq_true] at h
    cases i with
    | zero => simp only [List.getElem?_cons_zero, Option.some.injEq] at hx; subst hx; exact h.1
    | succ i => have := allI_get h.2 i x (by simpa using hx); rwa [show k + 1 + i = k + (i + 1) from by omega] at this
/-- An operation of the front that writes a slot anew, which others have read ahead of it: it names its own slot. -/
def over1 (o : Oper) (e : List Nat × List Nat) : Bool := o.guard.isNone && !maker o.op && (match o.dst with | some d => e.1.contains d | none => false)
def overAt (ops : List Oper) (pl : Plan) (j : Nat) : Bool :=
  match ops[j]?, pl[j]? with
  | some o, some e => over1 o e
  | _, _ => false
/-- The slots of the front that were not there. -/
def dstsP : List Oper → Plan → List Nat
  | o :: r, e :: pl => if over1 o e = true then dstsP r pl else o.dst.getD 0 :: dstsP r pl
  | _, _ => []
theorem mem_dstsP : ∀ {ops : List Oper} {pl : Plan} {i d : Nat} {o : Oper} {e : List Nat × List Nat}, ops[i]? = some o → pl[i]? = some e → o.dst = some d → over1 o e = false → d ∈ dstsP ops pl
  | o :: r, e :: pl, i, d, o', e', ho, he, hd, hov => by
    unfold dstsP
    cases i with
    | zero =>
      simp only [List.getElem?_cons_zero, Option.some.injEq] at ho he
      subst ho; subst he
      rw [if_neg (by simp [hov]), hd]
      exact List.mem_cons_self
    | succ i =>
      have := mem_dstsP (ops := r) (pl := pl) (i := i) (by simpa using ho) (by simpa using he) hd hov
      split
      · exact this
      · exact List.mem_cons_of_mem _ this
  | [], _, i, d, o', e', ho, _, _, _ => by simp at ho
  | _ :: _, [], i, d, o', e', _, he, _, _ => by simp at he
def planOk (ops : List Oper) (pl : Plan) : Bool :=
  let D := depTab ops []
  let n := pl.length
  decide (n ≤ ops.length)
  && allI (fun i o => o.after.toList.all fun e => !Region.binds .any e || decide (e.on < i)) 0 ops
  && allI (fun i o => o.dst.isSome && allI (fun j p => decide (i = j) || !(o.dst.getD 0 == p.dst.getD 0)) 0 (ops.take n)) 0 (ops.take n)
  && allI (fun i e => allI (fun j p => (!(e.1.contains (p.dst.getD 0)) || (D.getD i 0).testBit j || (overAt ops pl j && (decide (i = j) || (D.getD j 0).testBit i))) && (!maker p.op || (D.getD i 0).testBit j || decide (i = j) || e.2.contains (p.dst.getD 0))) 0 (ops.take n)) 0 pl
  && allI (fun i d => decide (i < n) || ((List.range i).all fun j => d.testBit j)) 0 D

structure PlanOk (ops : List Oper) (pl : Plan) (D : List Nat) : Prop where
  len : pl.length ≤ ops.length
  dep : ∀ i o, ops[i]? = some o → ∀ x, (D.getD i 0).testBit x = true → ∃ e ∈ o.after.toList, Region.binds .any e = true ∧ (x = e.on ∨ (D.getD e.on 0).testBit x = true)
  back : ∀ i o, ops[i]? = some o → ∀ e ∈ o.after.toList, Region.binds .any e = true → e.on < i
  dst : ∀ i o, i < pl.length → ops[i]? = some o → ∃ d, o.dst = some d
  inj : ∀ i j o p, i < pl.length → j < pl.length → ops[i]? = some o → ops[j]? = some p → o.dst = p.dst → i = j
  sees : ∀ i j (e : List Nat × List Nat) p d, pl[i]? = some e → j < pl.length → ops[j]? = some p → p.dst = some d → d ∈ e.1 → (D.getD i 0).testBit j = true ∨ (overAt ops pl j = true ∧ (i = j ∨ (D.getD j 0).testBit i = true))
  hides : ∀ i j (e : List Nat × List Nat) p d, pl[i]? = some e → j < pl.length → ops[j]? = some p → p.dst = some d → maker p.op = true → (D.getD i 0).testBit j = true ∨ i = j ∨ d ∈ e.2
  tail : ∀ i, pl.length ≤ i → i < ops.length → ∀ j, j < i → (D.getD i 0).testBit j = true
theorem take_get {α : Type} {l : List α} {n i : Nat} {x : α} (hi : i < n) (h : l[i]? = some x) : (l.take n)[i]? = some x := by
  rw [List.getElem?_take, if_pos hi]; exact h
theorem depTab_length : ∀ (l : List Oper) (acc : List Nat), (depTab l acc).length = acc.length + l.length
  | [], acc => by simp [depTab]
  | o :: r, acc => by simp only [depTab, depTab_length r, List.length_append, List.length_cons, List.length_nil]; omega
theorem planOk_sound {ops : List Oper} {pl : Plan} (h : planOk ops pl = true) : PlanOk ops pl (depTab ops []) := by
  simp only [planOk, Bool.and_eq_true, decide_eq_true_eq] at h
  obtain ⟨⟨⟨⟨h1, h2⟩, h3⟩, h4⟩, h5⟩ := h
  have hD := depTab_sound ops [] [] ⟨rfl, by simp⟩
  simp only [List.nil_append] at hD
  refine { len := h1, dep := hD.2, back := fun i o ho e he hb => ?_, dst := fun i o hi ho => ?_, inj := fun i j o p hi hj ho hp he => ?_, sees := fun i j e p d hi hj hp hd hm => ?_, hides := fun i j e p d hi hj hp hd hm => ?_, tail := fun i hi hi2 j hj => ?_ }
  · have := allI_get h2 i o ho
    simp only [Nat.zero_add, List.all_eq_true] at this
    have := this e he
    simpa [hb] using this
  · have := allI_get h3 i o (take_get hi ho)
    simp only [Bool.and_eq_true, Option.isSome_iff_exists] at this
    exact this.1
  · have := allI_get h3 i o (take_get hi ho)
    simp only [Bool.and_eq_true] at this
    have := allI_get this.2 j p (take_get hj hp)
    simpa [he] using this
  · have := allI_get (allI_get h4 i e hi) j p (take_get hj hp)
    simp only [Nat.zero_add, Bool.and_eq_true, hd, Option.getD_some] at this
    have := this.1
    simp only [Bool.or_eq_true, Bool.not_eq_true', Bool.and_eq_true, decide_eq_true_eq] at this
    rcases this with (h6 | h6) | h6
    · rw [List.contains_iff_mem.mpr hm] at h6; simp at h6
    · exact .inl h6
    · exact .inr h6
  · have := allI_get (allI_get h4 i e hi) j p (take_get hj hp)
    simp only [Nat.zero_add, Bool.and_eq_true, hd, Option.getD_some] at this
    have := this.2
    simpa [hm, or_assoc] using this
  · have hlt : i < (depTab ops []).length := by rw [hD.1]; exact hi2
    have := allI_get h5 i _ (List.getElem?_eq_getElem hlt)
    simp only [Nat.zero_add, Bool.or_eq_true, decide_eq_true_eq, List.all_eq_true, List.mem_range] at this
    rcases this with h | h
    · omega
    · simpa [List.getD_eq_getElem?_getD, List.getElem?_eq_getElem hlt] using h j hj

/-! ### The run, in the text's order -/
def pk (l : List (Nat × V)) : List Nat → List (Nat × V)
  | [] => []
  | t :: r => match lk t l with
    | some v => (t, v) :: pk l r
    | none => pk l r
def rmL {α : Type} : List Nat → List (Nat × α) → List (Nat × α)
  | [], l => l
  | f :: r, l => rm f (rmL r l)
theorem lk_pk {l : List (Nat × V)} {k : Nat} {v : V} : ∀ {ts : List Nat}, lk k (pk l ts) = some v → k ∈ ts ∧ lk k l = some v
  | [], h => by simp [pk, lk] at h
  | t :: r, h => by
    simp only [pk] at h
    split at h
    · rename_i u hu
      simp only [lk] at h
      split at h
      · rename_i e; subst e; simp only [Option.some.injEq] at h; subst h; exact ⟨by simp, hu⟩
      · have := lk_pk h; exact ⟨by simp [this.1], this.2⟩
    · have := lk_pk h; exact ⟨by simp [this.1], this.2⟩
theorem lk_rmL {α : Type} {l : List (Nat × α)} {k : Nat} : ∀ (fs : List Nat), lk k (rmL fs l) = if k ∈ fs then none else lk k l
  | [] => by simp [rmL]
  | f :: r => by
    simp only [rmL, lk_rm, lk_rmL r, List.mem_cons]
    by_cases e : k = f <;> simp [e]
def mentAny (fs : List Nat) (v : V) : Bool := fs.any fun f => ment 5 f v
def blkMent (fs : List Nat) : Option Blk → Bool
  | some b => (bcells b).any (mentAny fs)
  | none => false
def addO (σ : St) : Option (Nat × V × Option Blk) → St
  | some (d, v, some b) => { σ with env := put d v σ.env, blk := put d b σ.blk }
  | some (d, v, none) => { σ with env := put d v σ.env }
  | none => σ
def drawA (G : Pg) (keep : List Nat) (N : Nat) (ops : List Oper) : Plan → List Oper → St → Option St
  | [], r, σ => runOps G keep N ops r σ
  | (ts, fs) :: pl, o :: r, σ => match o.dst with
    | some d => match guardA ops ⟨pk σ.env ts, [], []⟩ o with
      | some true => match addA G keep ⟨pk σ.env ts, rmL fs σ.blk, []⟩ d o.type o.op with
        | some (v, ob) => if (mentAny fs v || blkMent fs ob) = false then drawA G keep N ops pl r (addO σ (some (d, v, ob))) else none
        | none => none
      | some false => drawA G keep N ops pl r (addO σ (some (d, .tup [], none)))
      | none => none
    | none => none
  | _, [], _ => none
def prep (ds ms : List Nat) (σ : St) : St := St.kill ms { σ with env := rmL ds σ.env, blk := rmL ms σ.blk }

def afterO (σ : St) (outs : List (Option (Nat × V × Option Blk))) : St := outs.foldl addO σ
theorem addO_tr (σ : St) (o : Option (Nat × V × Option Blk)) : (addO σ o).tr = σ.tr := by
  unfold addO; split <;> rfl
theorem afterO_tr : ∀ (outs : List (Option (Nat × V × Option Blk))) (σ : St), (afterO σ outs).tr = σ.tr
  | [], σ => rfl
  | o :: r, σ => by
    have := afterO_tr r (addO σ o)
    rw [show afterO σ (o :: r) = afterO (addO σ o) r from rfl, this, addO_tr]
/-- What a step of the run says. -/
def StepFact (G : Pg) (keep : List Nat) (ops : List Oper) (σ : St) (o : Oper) (e : List Nat × List Nat) (out : Option (Nat × V × Option Blk)) : Prop :=
  ∃ d, o.dst = some d ∧ match out with
    | none => guardA ops ⟨pk σ.env e.1, [], []⟩ o = some false
    | some (d', v, ob) => d' = d ∧ mentAny e.2 v = false ∧ blkMent e.2 ob = false ∧ ((guardA ops ⟨pk σ.env e.1, [], []⟩ o = some true ∧ addA G keep ⟨pk σ.env e.1, rmL e.2 σ.blk, []⟩ d o.type o.op = some (v, ob)) ∨ (guardA ops ⟨pk σ.env e.1, [], []⟩ o = some false ∧ v = .tup [] ∧ ob = none))
theorem drawA_outs {G : Pg} {keep : List Nat} {N : Nat} {ops : List Oper} : ∀ (pl : Plan) (r : List Oper) (σ σ' : St), drawA G keep N ops pl r σ = some σ' →
    ∃ outs : List (Option (Nat × V × Option Blk)), outs.length = pl.length ∧ runOps G keep N ops (r.drop pl.length) (afterO σ outs) = some σ' ∧
      ∀ (i : Nat) (e : List Nat × List Nat) (o : Oper) (out : Option (Nat × V × Option Blk)), pl[i]? = some e → r[i]? = some o → outs[i]? = some out → StepFact G keep ops (afterO σ (outs.take i)) o e out
  | [], r, σ, σ', h => by
    refine ⟨[], rfl, ?_, by simp⟩
    simpa [drawA, afterO] using h
  | (ts, fs) :: pl, [], σ, σ', h => by simp [drawA] at h
  | (ts, fs) :: pl, o :: r, σ, σ', h => by
    simp only [drawA] at h
    split at h
    · rename_i d hd
      split at h
      · rename_i hg
        split at h
        · rename_i v ob ha
          split at h
          · rename_i hm
            simp only [Bool.or_eq_false_iff] at hm
            obtain ⟨outs, h1, h2, h3⟩ := drawA_outs pl r _ σ' h
            refine ⟨some (d, v, ob) :: outs, by simp [h1], by simpa [afterO] using h2, fun i e p out hi hp ho => ?_⟩
            cases i with
            | zero =>
              simp only [List.getElem?_cons_zero, Option.some.injEq] at hi hp ho
              subst hi; subst hp; subst ho
              exact ⟨d, hd, rfl, hm.1, hm.2, .inl ⟨hg, ha⟩⟩
            | succ i =>
              have := h3 i e p out (by simpa using hi) (by simpa using hp) (by simpa using ho)
              simpa [afterO] using this
          · simp at h
        · simp at h
      · rename_i hg
        obtain ⟨outs, h1, h2, h3⟩ := drawA_outs pl r _ σ' h
        refine ⟨some (d, .tup [], none) :: outs, by simp [h1], by simpa [afterO] using h2, fun i e p out hi hp ho => ?_⟩
        cases i with
        | zero =>
          simp only [List.getElem?_cons_zero, Option.some.injEq] at hi hp ho
          subst hi; subst hp; subst ho
          exact ⟨d, hd, rfl, by simp [mentAny, ment], rfl, .inr ⟨hg, rfl, rfl⟩⟩
        | succ i =>
          have := h3 i e p out (by simpa using hi) (by simpa using hp) (by simpa using ho)
          simpa [afterO] using this
      · simp at h
    · simp at h
theorem afterO_env {σ : St} : ∀ {outs : List (Option (Nat × V × Option Blk))} {k : Nat} {v : V}, lk k (afterO σ outs).env = some v → lk k σ.env = some v ∨ ∃ (j : Nat) (ob : Option Blk), outs[j]? = some (some (k, v, ob)) := by
  intro outs
  induction outs generalizing σ with
  | nil => intro k v h; exact .inl h
  | cons x r ih =>
    intro k v h
    rcases ih (σ := addO σ x) h with h | ⟨j, ob, hj⟩
    · match x, h with
      | none, h => exact .inl h
      | some (d, u, none), h =>
        simp only [addO, lk_put] at h
        split at h
        · rename_i e; subst e; simp only [Option.some.injEq] at h; subst h; exact .inr ⟨0, none, rfl⟩
        · exact .inl h
      | some (d, u, some b), h =>
        simp only [addO, lk_put] at h
        split at h
        · rename_i e; subst e; simp only [Option.some.injEq] at h; subst h; exact .inr ⟨0, some b, rfl⟩
        · exact .inl h
    · exact .inr ⟨j + 1, ob, by simpa using hj⟩
theorem afterO_env' {σ : St} : ∀ {outs : List (Option (Nat × V × Option Blk))} {k : Nat} {v : V}, lk k (afterO σ outs).env = some v → (lk k σ.env = some v ∧ ∀ (j : Nat) (u : V) (ob : Option Blk), outs[j]? ≠ some (some (k, u, ob))) ∨ ∃ (j : Nat) (ob : Option Blk), outs[j]? = some (some (k, v, ob)) := by
  intro outs
  induction outs generalizing σ with
  | nil => intro k v h; exact .inl ⟨h, fun j u ob => by simp⟩
  | cons x r ih =>
    intro k v h
    rcases ih (σ := addO σ x) h with ⟨h, hn⟩ | ⟨j, ob, hj⟩
    · have hcons : ∀ (hx : ∀ u ob, x ≠ some (k, u, ob)), ∀ (j : Nat) (u : V) (ob : Option Blk), (x :: r)[j]? ≠ some (some (k, u, ob)) := fun hx j u ob e => by
        cases j with
        | zero => simp only [List.getElem?_cons_zero, Option.some.injEq] at e; exact hx u ob e
        | succ j => exact hn j u ob (by simpa using e)
      match x, h, hcons with
      | none, h, hcons => exact .inl ⟨h, hcons (fun u ob e => by simp at e)⟩
      | some (d, u, none), h, hcons =>
        simp only [addO, lk_put] at h
        split at h
        · rename_i e; subst e; simp only [Option.some.injEq] at h; subst h; exact .inr ⟨0, none, rfl⟩
        · rename_i e; exact .inl ⟨h, hcons (fun u ob e2 => by simp only [Option.some.injEq, Prod.mk.injEq] at e2; exact e e2.1.symm)⟩
      | some (d, u, some b), h, hcons =>
        simp only [addO, lk_put] at h
        split at h
        · rename_i e; subst e; simp only [Option.some.injEq] at h; subst h; exact .inr ⟨0, some b, rfl⟩
        · rename_i e; exact .inl ⟨h, hcons (fun u ob e2 => by simp only [Option.some.injEq, Prod.mk.injEq] at e2; exact e e2.1.symm)⟩
    · exact .inr ⟨j + 1, ob, by simpa using hj⟩
theorem afterO_blk {σ : St} : ∀ {outs : List (Option (Nat × V × Option Blk))} {k : Nat} {b : Blk}, lk k (afterO σ outs).blk = some b → lk k σ.blk = some b ∨ ∃ (j : Nat) (v : V), outs[j]? = some (some (k, v, some b)) := by
  intro outs
  induction outs generalizing σ with
  | nil => intro k v h; exact .inl h
  | cons x r ih =>
    intro k v h
    rcases ih (σ := addO σ x) h with h | ⟨j, ob, hj⟩
    · match x, h with
      | none, h => exact .inl h
      | some (d, u, none), h => exact .inl h
      | some (d, u, some b), h =>
        simp only [addO, lk_put] at h
        split at h
        · rename_i e; subst e; simp only [Option.some.injEq] at h; subst h; exact .inr ⟨0, u, rfl⟩
        · exact .inl h
    · exact .inr ⟨j + 1, ob, by simpa using hj⟩
end Go.Proofs.Ytidiigajhbegeaa.E
namespace Go.Proofs.Ytidiigajhbegeaa.E
open Go Go.RowKit
set_option linter.unusedVariables false
set_option linter.unusedSimpArgs false

def On (listed : Array Bool) (i : Nat) : Prop := listed.getD i false = true
def left (n : Nat) (listed : Array Bool) : Nat := ((List.range n).filter fun i => !listed.getD i true).length
theorem filter_less {p q : Nat → Bool} (hpq : ∀ x, q x = true → p x = true) {i : Nat} (hp : p i = true) (hq : q i = false) : ∀ {l : List Nat}, i ∈ l → (l.filter q).length < (l.filter p).length := by
  have hle : ∀ l : List Nat, (l.filter q).length ≤ (l.filter p).length := fun l => by
    induction l with
    | nil => simp
    | cons x r ih =>
      simp only [List.filter_cons]
      cases hqx : q x with
      | true => simp [hpq x hqx, ih]
      | false => cases p x <;> simp <;> omega
  intro l
  induction l with
  | nil => simp
  | cons x r ih =>
    intro h
    simp only [List.filter_cons]
    rcases List.mem_cons.1 h with e | h
    · subst e; have := hle r; simp [hp, hq]; omega
    · have := ih h
      cases hqx : q x with
      | true => simp [hpq x hqx, this]
      | false => cases p x <;> simp <;> omega
theorem on_set {listed : Array Bool} {n i j : Nat} (hs : listed.size = n) (hi : i < n) : On (listed.setIfInBounds i true) j ↔ j = i ∨ On listed j := by
  simp only [On, Array.getD_eq_getD_getElem?, Array.getElem?_setIfInBounds]
  by_cases e : i = j
  · subst e; simp [hs, hi]
  · have e' : ¬ j = i := fun h => e h.symm
    simp [e, e']
theorem left_set {n i : Nat} {listed : Array Bool} (hs : listed.size = n) (hi : i < n) (hu : ¬ On listed i) : left n (listed.setIfInBounds i true) < left n listed := by
  refine filter_less (i := i) (fun x hx => ?_) ?_ ?_ (List.mem_range.2 hi)
  · simp only [Bool.not_eq_true', Array.getD_eq_getD_getElem?, Array.getElem?_setIfInBounds] at hx ⊢
    split at hx
    · split at hx <;> simp at hx
    · exact hx
  · simp only [On, Array.getD_eq_getD_getElem?] at hu ⊢
    have : i < listed.size := by omega
    simp [this] at hu ⊢; exact hu
  · simp [Array.getD_eq_getD_getElem?, Array.getElem?_setIfInBounds, hs, hi]
theorem on_of_left {n : Nat} {listed : Array Bool} (hs : listed.size = n) (h : left n listed = 0) (i : Nat) (hi : i < n) : On listed i := by
  simp only [left, List.length_eq_zero_iff, List.filter_eq_nil_iff, List.mem_range] at h
  have := h i hi
  have hi' : i < listed.size := by omega
  simpa [On, Array.getD_eq_getD_getElem?, hi'] using this
theorem ready_mem {ops : Array Oper} {listed : Array Bool} (hs : listed.size = ops.size) {i : Nat} (h : i ∈ Region.ready .any ops listed) :
    i < ops.size ∧ ¬ On listed i ∧ ∃ o, ops[i]? = some o ∧ ∀ e ∈ o.after.toList, Region.binds .any e = true → On listed e.on := by
  simp only [Region.ready, List.mem_filter, List.mem_range, Bool.and_eq_true] at h
  obtain ⟨hi, hu, ha⟩ := h
  refine ⟨hi, ?_, ops[i], by simp [hi], fun e he hb => ?_⟩
  · have hi' : i < listed.size := by omega
    simpa [On, Array.getD_eq_getD_getElem?, hi'] using hu
  · simp only [Array.getElem?_eq_getElem hi, Option.map_some, Option.getD_some, Array.all_eq_true', Bool.or_eq_true] at ha
    have := ha e (by simpa using he)
    simpa [hb, On, Array.getD_eq_getD_getElem?] using this
theorem ready_least {ops : Array Oper} {listed : Array Bool} (hs : listed.size = ops.size) (hb : ∀ i o, ops[i]? = some o → ∀ e ∈ o.after.toList, Region.binds .any e = true → e.on < i) :
    ∀ i, i < ops.size → ¬ On listed i → ∃ j, j ∈ Region.ready .any ops listed := by
  intro i
  induction i using Nat.strongRecOn with
  | _ i ih =>
    intro hi hu
    by_cases h : ∀ j, j < i → On listed j
    · refine ⟨i, ?_⟩
      simp only [Region.ready, List.mem_filter, List.mem_range, Bool.and_eq_true]
      have hi' : i < listed.size := by omega
      refine ⟨hi, by simpa [On, Array.getD_eq_getD_getElem?, hi'] using hu, ?_⟩
      simp only [Array.getElem?_eq_getElem hi, Option.map_some, Option.getD_some, Array.all_eq_true', Bool.or_eq_true]
      intro e he
      cases hbd : Region.binds .any e with
      | false => exact .inl rfl
      | true => exact .inr (h e.on (hb i _ (Array.getElem?_eq_getElem hi) e (by simpa using he) hbd))
    · simp only [Classical.not_forall] at h
      obtain ⟨j, hj, hju⟩ := h
      exact ih j hj (by omega) hju

section
variable {C : Base} {G : Pg} {keep : List Nat} {ops : Array Oper} {pl : Plan} {σ0 : St} {outs : List (Option (Nat × V × Option Blk))}
/-- The state behind a set of operations that add. -/
structure Tog (ops : List Oper) (pl : Plan) (σ0 : St) (outs : List (Option (Nat × V × Option Blk))) (L : Nat → Prop) (τ : St) : Prop where
  base : ∀ k v, lk k σ0.env = some v → (∃ j, L j ∧ overAt ops pl j = true ∧ ∃ o, ops[j]? = some o ∧ o.dst = some k) ∨ lk k τ.env = some v
  bblk : ∀ s b, lk s σ0.blk = some b → lk s τ.blk = some b
  has : ∀ j d v ob, L j → outs[j]? = some (some (d, v, ob)) → lk d τ.env = some v ∧ ∀ b, ob = some b → lk d τ.blk = some b
  env : ∀ k u, lk k τ.env = some u → lk k σ0.env = some u ∨ ∃ j, L j ∧ ∃ ob, outs[j]? = some (some (k, u, ob))
  blk : ∀ s b, lk s τ.blk = some b → lk s σ0.blk = some b ∨ ∃ j, L j ∧ ∃ v, outs[j]? = some (some (s, v, some b))
  tr : τ.tr = σ0.tr

theorem PlanOk.lt {ops : List Oper} {pl : Plan} (hp : PlanOk ops pl (depTab ops [])) : ∀ i x, ((depTab ops []).getD i 0).testBit x = true → x < i := by
  intro i
  induction i using Nat.strongRecOn with
  | _ i ih =>
    intro x hx
    have hl := depTab_length ops []
    simp only [List.length_nil, Nat.zero_add] at hl
    have hi : i < ops.length := by
      rcases Nat.lt_or_ge i ops.length with h | h
      · exact h
      · rw [List.getD_eq_getElem?_getD, List.getElem?_eq_none (by omega)] at hx
        simp at hx
    have ho := List.getElem?_eq_getElem hi
    obtain ⟨e, he, hb, hor⟩ := hp.dep i _ ho x hx
    have hlt := hp.back i _ ho e he hb
    rcases hor with rfl | h
    · exact hlt
    · have := ih e.on hlt x h; omega
/-- The tail: its order is forced. -/
theorem tail_sound (hT : TOk G) (hC : CtxOk G) (hp : PlanOk ops.toList pl (depTab ops.toList [])) {Q : Exit → Act → World → Prop} {ro : Option Nat} {rm : Nat} {σ' : St}
    : ∀ (r : List Oper) (m fuel : Nat) (listed : Array Bool) {C : Base} {σ : St} {a : Act} {w : World} {μ : Mu} {Fz Fy : Nat → Prop}, YOk G C → (∀ M' a' w' μ' Fz' Fy', More C M' → Sim (C.withM M') σ' a' w' μ' Fz' Fy' → Q .normal a' w') →
    ops.toList.drop m = r → pl.length ≤ m → m ≤ ops.size → listed.size = ops.size → (∀ i, i < ops.size → (On listed i ↔ i < m)) → (∀ i, On listed i → ∀ x, ((depTab ops.toList []).getD i 0).testBit x = true → On listed x) → left ops.size listed ≤ fuel → Sim C σ a w μ Fz Fy →
    runOps G keep C.N ops.toList r σ = some σ' → wpAnyIn (FR ro) rm G.P .any ops Q fuel listed a w
  | [], m, fuel, listed, C, σ, a, w, μ, Fz, Fy, hY, hQ, hr, hm, hm2, hs, hl, hcl, hf, h, hx => by
    have hmn : ops.size ≤ m := by
      have := congrArg List.length hr; simp at this; omega
    simp only [runOps, Option.some.injEq] at hx
    subst hx
    have hno : Region.ready .any ops listed = [] := by
      cases hrd : Region.ready .any ops listed with
      | nil => rfl
      | cons i l =>
        obtain ⟨h1, h2, _⟩ := ready_mem hs (i := i) (by simp [hrd])
        exact absurd ((hl i h1).2 (by omega)) h2
    cases fuel with
    | zero => exact ⟨hno, hQ C.M _ _ _ _ _ (More.refl C) h⟩
    | succ fuel => exact ⟨fun _ => hQ C.M _ _ _ _ _ (More.refl C) h, fun i hi => by simp [hno] at hi⟩
  | o :: r, m, fuel, listed, C, σ, a, w, μ, Fz, Fy, hY, hQ, hr, hm, hm2, hs, hl, hcl, hf, h, hx => by
    have hmlt : m < ops.size := by
      have := congrArg List.length hr; simp at this; omega
    have hom : ops[m]? = some o := by
      have : (ops.toList.drop m)[0]? = some o := by rw [hr]; rfl
      simpa [List.getElem?_drop] using this
    have hr' : ops.toList.drop (m + 1) = r := by
      have : ops.toList.drop (m + 1) = (ops.toList.drop m).drop 1 := by rw [List.drop_drop]
      rw [this, hr]; rfl
    have hum : ¬ On listed m := fun e => by have := (hl m hmlt).1 e; omega
    cases fuel with
    | zero => exact absurd (on_of_left hs (by omega) m hmlt) hum
    | succ fuel =>
      refine ⟨fun hrd => ?_, fun i hi => ?_⟩
      · obtain ⟨j, hj⟩ := ready_least hs (fun i o ho => hp.back i o (by simpa using ho)) m hmlt hum
        rw [hrd] at hj; simp at hj
      · obtain ⟨h1, h2, oi, ho, hon⟩ := ready_mem hs hi
        have him : i = m := by
          by_cases e : i < m
          · exact absurd ((hl i h1).2 e) h2
          · by_cases e2 : i = m
            · exact e2
            · exfalso
              have hd := hp.tail i (by omega) (by simpa using h1) m (by omega)
              obtain ⟨e', he', hb, hor⟩ := hp.dep i oi (by simpa using ho) m hd
              have := hon e' he' hb
              rcases hor with h3 | h3
              · rw [← h3] at this; exact hum this
              · exact hum (hcl _ this m h3)
        subst him
        have hcl' : ∀ j, On (listed.setIfInBounds i true) j → ∀ x, ((depTab ops.toList []).getD j 0).testBit x = true → On (listed.setIfInBounds i true) x := fun j hj x hx => by
          rw [on_set hs h1] at hj ⊢
          rcases hj with rfl | hj
          · obtain ⟨e', he', hb, hor⟩ := hp.dep j oi (by simpa using ho) x hx
            have := hon e' he' hb
            rcases hor with rfl | h3
            · exact .inr this
            · exact .inr (hcl _ this x h3)
          · exact .inr (hcl j hj x hx)
        have hl' : ∀ j, j < ops.size → (On (listed.setIfInBounds i true) j ↔ j < i + 1) := fun j hj => by
          rw [on_set hs h1, hl j hj]; omega
        have hlf := left_set hs h1 h2
        have key : ∀ {M1 : Nat → Prop} {σ1 : St} {a1 : Act} {w1 : World} {μ1 : Mu} {Fz1 Fy1 : Nat → Prop}, More C M1 → Sim (C.withM M1) σ1 a1 w1 μ1 Fz1 Fy1 → runOps G keep C.N ops.toList r σ1 = some σ' → wpAnyIn (FR ro) rm G.P .any ops Q fuel (listed.setIfInBounds i true) a1 w1 :=
          fun {M1} _ _ _ _ _ _ hM h1' hx' => tail_sound hT hC hp r (i + 1) fuel _ (hY.withM M1) (fun M' a' w' μ' Fz' Fy' hM' h' => hQ M' _ _ _ _ _ (hM.trans hM') h') hr' (by omega) (by omega) (by simpa using hs) hl' hcl' (by omega) h1' hx'
        have hoi : oi = o := by rw [hom] at ho; simpa using ho.symm
        subst hoi
        unfold wpOpIn
        simp only [ho]
        simp only [runOps] at hx
        split at hx
        · rename_i hg
          split at hx
          · rename_i σ1 hst
            rw [if_pos (guardA_sound h hg)]
            exact stepX_sound hT hC hY h hst fun M' a' w' μ' Fz' Fy' hM h' => key hM h' hx
          · simp at hx
        · rename_i hg
          rw [if_neg (by simp [guardA_sound h hg])]
          exact ⟨fun _ _ => trivial, key (M1 := C.M) (More.refl C) (h.skip' oi.dst) hx⟩
        · simp at hx
/-- The operations that add, in whatever order. -/
theorem front_sound (hT : TOk G) (hC : CtxOk G) (hp : PlanOk ops.toList pl (depTab ops.toList [])) {Q : Exit → Act → World → Prop} {ro : Option Nat} {rm : Nat} {σ' : St}
    (hY : YOk G C) (hQ : ∀ M' a' w' μ' Fz' Fy', More C M' → Sim (C.withM M') σ' a' w' μ' Fz' Fy' → Q .normal a' w') (hN : ∀ (i : Nat) (o : Oper) (d : Nat), i < pl.length → ops[i]? = some o → o.dst = some d → d < C.N)
    (ho1 : outs.length = pl.length) (ho2 : runOps G keep C.N ops.toList (ops.toList.drop pl.length) (afterO σ0 outs) = some σ')
    (ho3 : ∀ (i : Nat) (e : List Nat × List Nat) (o : Oper) (out : Option (Nat × V × Option Blk)), pl[i]? = some e → ops[i]? = some o → outs[i]? = some out → StepFact G keep ops.toList (afterO σ0 (outs.take i)) o e out)
    (hn1 : ∀ (i : Nat) (o : Oper) (d : Nat), i < pl.length → ops[i]? = some o → o.dst = some d → overAt ops.toList pl i = false → lk d σ0.env = none)
    (hn2 : ∀ (i : Nat) (o : Oper) (d : Nat), i < pl.length → ops[i]? = some o → o.dst = some d → maker o.op = true → Fresh d σ0) :
    ∀ (fuel : Nat) (listed : Array Bool) {τ : St} {a : Act} {w : World} {μ : Mu} {Fz Fy : Nat → Prop}, listed.size = ops.size → (∀ i, On listed i → ∀ x, ((depTab ops.toList []).getD i 0).testBit x = true → On listed x) →
    (∀ i, pl.length ≤ i → i < ops.size → ¬ On listed i) → left ops.size listed ≤ fuel → Sim C τ a w μ Fz Fy → Tog ops.toList pl σ0 outs (fun i => i < pl.length ∧ On listed i) τ → wpAnyIn (FR ro) rm G.P .any ops Q fuel listed a w := by
  intro fuel
  have hpn : pl.length ≤ ops.size := by simpa using hp.len
  -- what is written anew is written
  have hover : ∀ (j : Nat) (o : Oper) (k : Nat), overAt ops.toList pl j = true → ops.toList[j]? = some o → o.dst = some k → j < pl.length ∧ ∃ v ob, outs[j]? = some (some (k, v, ob)) := fun j o k hov ho hk => by
    unfold overAt at hov
    rw [ho] at hov
    cases hpj : pl[j]? with
    | none => rw [hpj] at hov; simp at hov
    | some e =>
      rw [hpj] at hov
      simp only [over1, Bool.and_eq_true, Option.isNone_iff_eq_none] at hov
      have hjl : j < pl.length := (List.getElem?_eq_some_iff.1 hpj).1
      have hjo : j < outs.length := by omega
      have hst := ho3 j e o outs[j] hpj (by simpa using ho) (List.getElem?_eq_getElem hjo)
      refine ⟨hjl, ?_⟩
      rw [List.getElem?_eq_getElem hjo]
      generalize outs[j] = x at hst
      obtain ⟨d, hd, hrest⟩ := hst
      have hdk : d = k := by rw [hk] at hd; simpa using hd.symm
      match x, hrest with
      | none, hg => simp [guardA, hov.1.1] at hg
      | some (d', v, ob), hr =>
        simp only at hr
        exact ⟨v, ob, by rw [hr.1, hdk]⟩
  -- all that add are through: the tail
  have hend : ∀ (fuel : Nat) (listed : Array Bool) {τ : St} {a : Act} {w : World} {μ : Mu} {Fz Fy : Nat → Prop}, listed.size = ops.size → (∀ i, On listed i → ∀ x, ((depTab ops.toList []).getD i 0).testBit x = true → On listed x) →
      (∀ i, pl.length ≤ i → i < ops.size → ¬ On listed i) → left ops.size listed ≤ fuel → Sim C τ a w μ Fz Fy → Tog ops.toList pl σ0 outs (fun i => i < pl.length ∧ On listed i) τ → (∀ i, i < pl.length → On listed i) → wpAnyIn (FR ro) rm G.P .any ops Q fuel listed a w := by
    intro fuel listed τ a w μ Fz Fy hs hcl hno hf h ht hall
    refine tail_sound hT hC hp _ pl.length fuel listed hY hQ rfl (Nat.le_refl _) hpn hs (fun i hi => ⟨fun hon => ?_, fun hlt => hall i hlt⟩) hcl hf (h.sub (fun k v hk => ?_) (fun s b hb => ?_) (by rw [afterO_tr, ht.tr])) ho2
    · by_cases e : i < pl.length
      · exact e
      · exact absurd hon (hno i (by omega) hi)
    · rcases afterO_env' hk with ⟨h1, hno1⟩ | ⟨j, ob, hj⟩
      · rcases ht.base k v h1 with ⟨j, _, hov, o, hjo, hjd⟩ | h2
        · obtain ⟨_, v2, ob2, h3⟩ := hover j o k hov hjo hjd
          exact absurd h3 (hno1 j v2 ob2)
        · exact h2
      · have hjl : j < pl.length := by rw [← ho1]; exact (List.getElem?_eq_some_iff.1 hj).1
        exact (ht.has j k v ob ⟨hjl, hall j hjl⟩ hj).1
    · rcases afterO_blk hb with h1 | ⟨j, v, hj⟩
      · exact ht.bblk s b h1
      · have hjl : j < pl.length := by rw [← ho1]; exact (List.getElem?_eq_some_iff.1 hj).1
        exact (ht.has j s v (some b) ⟨hjl, hall j hjl⟩ hj).2 b rfl
  induction fuel with
  | zero =>
    intro listed τ a w μ Fz Fy hs hcl hno hf h ht
    exact hend 0 listed hs hcl hno hf h ht fun i hi => on_of_left hs (by omega) i (by omega)
  | succ fuel ih =>
    intro listed τ a w μ Fz Fy hs hcl hno hf h ht
    by_cases hall : ∀ i, i < pl.length → On listed i
    · exact hend (fuel + 1) listed hs hcl hno hf h ht hall
    simp only [Classical.not_forall] at hall
    obtain ⟨j0, hj0, hj0u⟩ := hall
    refine ⟨fun hrd => ?_, fun i hi => ?_⟩
    · obtain ⟨j, hj⟩ := ready_least hs (fun i o ho => hp.back i o (by simpa using ho)) j0 (by omega) hj0u
      rw [hrd] at hj; simp at hj
    · obtain ⟨h1, h2, oi, ho, hon⟩ := ready_mem hs hi
      have hdep : ∀ x, ((depTab ops.toList []).getD i 0).testBit x = true → On listed x := fun x hx => by
        obtain ⟨e', he', hb, hor⟩ := hp.dep i oi (by simpa using ho) x hx
        have := hon e' he' hb
        rcases hor with rfl | h3
        · exact this
        · exact hcl _ this x h3
      have hip : i < pl.length := by
        by_cases e : i < pl.length
        · exact e
        · exact absurd (hdep j0 (hp.tail i (by omega) (by simpa using h1) j0 (by omega))) hj0u
      have hcl' : ∀ j, On (listed.setIfInBounds i true) j → ∀ x, ((depTab ops.toList []).getD j 0).testBit x = true → On (listed.setIfInBounds i true) x := fun j hj x hx => by
        rw [on_set hs h1] at hj ⊢
        rcases hj with rfl | hj
        · exact .inr (hdep x hx)
        · exact .inr (hcl j hj x hx)
      have hno' : ∀ j, pl.length ≤ j → j < ops.size → ¬ On (listed.setIfInBounds i true) j := fun j hj hj2 => by
        rw [on_set hs h1]
        rintro (rfl | hx)
        · omega
        · exact hno j hj hj2 hx
      have hlf := left_set hs h1 h2
      have go : ∀ {τ' : St} {a1 : Act} {w1 : World} {μ1 : Mu} {Fz1 Fy1 : Nat → Prop}, Sim C τ' a1 w1 μ1 Fz1 Fy1 → Tog ops.toList pl σ0 outs (fun j => j < pl.length ∧ On (listed.setIfInBounds i true) j) τ' → wpAnyIn (FR ro) rm G.P .any ops Q fuel (listed.setIfInBounds i true) a1 w1 :=
        fun h' ht' => ih _ (by simpa using hs) hcl' hno' (by omega) h' ht'
      obtain ⟨d, hd⟩ := hp.dst i oi hip (by simpa using ho)
      have hiout : i < outs.length := by omega
      -- another operation that adds has another slot
      have hne : ∀ j v ob, j < pl.length → outs[j]? = some (some (d, v, ob)) → j = i := fun j v ob hj hjo => by
        have hjs : j < ops.size := by omega
        obtain ⟨d', hd', hrest⟩ := ho3 j pl[j] ops[j] _ (List.getElem?_eq_getElem hj) (Array.getElem?_eq_getElem hjs) hjo
        simp only at hrest
        obtain ⟨rfl, _⟩ := hrest
        exact hp.inj j i ops[j] oi hj hip (by simp [hjs]) (by simpa using ho) (hd'.trans hd.symm)
      have hdt : overAt ops.toList pl i = false → lk d τ.env = none := fun hov => by
        cases hk : lk d τ.env with
        | none => rfl
        | some u =>
          rcases ht.env d u hk with h3 | ⟨j, ⟨hj, hjon⟩, ob, hjo⟩
          · rw [hn1 i oi d hip ho hd hov] at h3; simp at h3
          · exact absurd (hne j u ob hj hjo ▸ hjon) h2
      have hoi := ho3 i pl[i] oi outs[i] (List.getElem?_eq_getElem hip) ho (List.getElem?_eq_getElem hiout)
      generalize hx : outs[i] = out at hoi
      have houti : outs[i]? = some out := by rw [List.getElem?_eq_getElem hiout, hx]
      obtain ⟨d', hd', hrest⟩ := hoi
      obtain rfl : d = d' := by rw [hd] at hd'; simpa using hd'
      -- what the operation may read is there
      have henv : ∀ k v, lk k (pk (afterO σ0 (outs.take i)).env pl[i].1) = some v → lk k τ.env = some v := fun k v hk => by
        obtain ⟨hk1, hk2⟩ := lk_pk hk
        rcases afterO_env' hk2 with ⟨h3, hno3⟩ | ⟨j, ob, hj⟩
        · rcases ht.base k v h3 with ⟨j, ⟨hj, hjon⟩, hov, o, hjo, hjd⟩ | h4
          · exfalso
            obtain ⟨_, v2, ob2, h5⟩ := hover j o k hov hjo hjd
            rcases hp.sees i j pl[i] o k (List.getElem?_eq_getElem hip) hj hjo hjd hk1 with h6 | ⟨_, h6 | h6⟩
            · have hji := hp.lt i j h6
              exact hno3 j v2 ob2 (by rw [List.getElem?_take, if_pos hji]; exact h5)
            · subst h6; exact h2 hjon
            · exact h2 (hcl j hjon i h6)
          · exact h4
        · have hji : j < i := by
            have := (List.getElem?_eq_some_iff.1 hj).1
            simp at this; omega
          have hjo : outs[j]? = some (some (k, v, ob)) := by rw [List.getElem?_take, if_pos hji] at hj; exact hj
          have hjs : j < ops.size := by omega
          have hjp : j < pl.length := by omega
          obtain ⟨d', hd', hrest'⟩ := ho3 j pl[j] ops[j] _ (List.getElem?_eq_getElem hjp) (Array.getElem?_eq_getElem hjs) hjo
          simp only at hrest'
          obtain ⟨rfl, _⟩ := hrest'
          rcases hp.sees i j pl[i] ops[j] k (List.getElem?_eq_getElem hip) hjp (by simp [hjs]) hd' hk1 with h6 | ⟨_, h6 | h6⟩
          · exact (ht.has j k v ob ⟨hjp, hdep j h6⟩ hjo).1
          · omega
          · have := hp.lt j i h6; omega
      have hmk : ∀ j (e : Oper) d1 v1 b1, j < pl.length → ops[j]? = some e → outs[j]? = some (some (d1, v1, some b1)) → e.dst = some d1 ∧ maker e.op = true := fun j e d1 v1 b1 hj he hjo => by
        obtain ⟨d', hd', hrest'⟩ := ho3 j pl[j] e _ (List.getElem?_eq_getElem hj) he hjo
        simp only at hrest'
        obtain ⟨rfl, _, _, hc⟩ := hrest'
        refine ⟨hd', ?_⟩
        rcases hc with ⟨_, ha⟩ | ⟨_, _, h0⟩
        · cases hm : maker e.op with
          | true => rfl
          | false => exact absurd (addA_maker ha hm) (by simp)
        · cases h0
      have hblk : ∀ s b, lk s (rmL pl[i].2 (afterO σ0 (outs.take i)).blk) = some b → lk s τ.blk = some b := fun s b hb => by
        rw [lk_rmL] at hb
        split at hb
        · simp at hb
        · rename_i hsn
          rcases afterO_blk hb with h3 | ⟨j, v, hj⟩
          · exact ht.bblk s b h3
          · have hji : j < i := by
              have := (List.getElem?_eq_some_iff.1 hj).1
              simp at this; omega
            have hjo : outs[j]? = some (some (s, v, some b)) := by rw [List.getElem?_take, if_pos hji] at hj; exact hj
            have hjs : j < ops.size := by omega
            have hjp : j < pl.length := by omega
            obtain ⟨m1, m2⟩ := hmk j ops[j] s v b hjp (Array.getElem?_eq_getElem hjs) hjo
            rcases hp.hides i j pl[i] ops[j] s (List.getElem?_eq_getElem hip) hjp (by simp [hjs]) m1 m2 with h4 | h4 | h4
            · exact (ht.has j s v (some b) ⟨hjp, hdep j h4⟩ hjo).2 b rfl
            · omega
            · exact absurd h4 hsn
      unfold wpOpIn
      simp only [ho]
      match out, hrest, houti with
      | none, hg, houti =>
        simp only at hg
        have hg' := guardA_mono (τ := τ) ⟨henv, fun s b hb => by simp [lk] at hb⟩ hg
        have hnov : overAt ops.toList pl i = false := by
          cases hov : overAt ops.toList pl i with
          | false => rfl
          | true =>
            obtain ⟨_, v2, ob2, h5⟩ := hover i oi d hov (by simpa using ho) hd
            rw [houti] at h5; simp at h5
        have hdt := hdt hnov
        rw [if_neg (by simp [guardA_sound h hg'])]
        refine ⟨fun _ _ => trivial, go (h.unset' oi.dst undef) ?_⟩
        rw [hd]
        have hrm : ∀ k, lk k (unsetS τ (some d)).env = lk k τ.env := fun k => by
          simp only [unsetS, lk_rm]
          split
          · rename_i e; rw [e, hdt]
          · rfl
        refine { tr := ht.tr, base := fun k v hk => (ht.base k v hk).imp (fun ⟨j, hj, r⟩ => ⟨j, ⟨hj.1, (on_set hs h1).2 (.inr hj.2)⟩, r⟩) (fun h => by rw [hrm]; exact h), bblk := ht.bblk, has := fun j d v ob hj hjo => ?_, env := fun k u hk => ?_, blk := fun s b hb => ?_ }
        · rw [on_set hs h1] at hj
          rcases hj.2 with rfl | hj2
          · rw [houti] at hjo; simp at hjo
          · rw [hrm]; exact ht.has j d v ob ⟨hj.1, hj2⟩ hjo
        · rw [hrm] at hk
          exact (ht.env k u hk).imp id fun ⟨j, hj, r⟩ => ⟨j, ⟨hj.1, (on_set hs h1).2 (.inr hj.2)⟩, r⟩
        · exact (ht.blk s b hb).imp id fun ⟨j, hj, r⟩ => ⟨j, ⟨hj.1, (on_set hs h1).2 (.inr hj.2)⟩, r⟩
      | some (d1, v, ob), hr, houti =>
        simp only at hr
        obtain ⟨rfl, hm1, hm2, hcase⟩ := hr
        have hfresh : ob ≠ none → Fresh d1 τ := fun hob => by
          have hmi : maker oi.op = true := by
            rcases hcase with ⟨_, ha⟩ | ⟨_, _, h0⟩
            · cases hm : maker oi.op with
              | true => rfl
              | false => exact absurd (addA_maker ha hm) hob
            · exact absurd h0 hob
          have hf0 := hn2 i oi d1 hip ho hd hmi
          -- what an operation ahead of it gave does not speak of it
          have hsp : ∀ j d2 v2 ob2, j < pl.length → On listed j → outs[j]? = some (some (d2, v2, ob2)) → ment 5 d1 v2 = false ∧ ∀ b, ob2 = some b → ∀ y ∈ bcells b, ment 5 d1 y = false := fun j d2 v2 ob2 hj hjon hjo => by
            have hjs : j < ops.size := by omega
            obtain ⟨d', hd', hrest'⟩ := ho3 j pl[j] ops[j] _ (List.getElem?_eq_getElem hj) (Array.getElem?_eq_getElem hjs) hjo
            simp only at hrest'
            obtain ⟨rfl, k1, k2, _⟩ := hrest'
            have hin : d1 ∈ pl[j].2 := by
              rcases hp.hides j i pl[j] oi d1 (List.getElem?_eq_getElem hj) hip (by simpa using ho) hd hmi with h4 | h4 | h4
              · exact absurd (hcl j hjon i h4) h2
              · exact absurd (h4 ▸ hjon) h2
              · exact h4
            refine ⟨?_, fun cells hc y hy => ?_⟩
            · simp only [mentAny, List.any_eq_false] at k1
              simpa using k1 d1 hin
            · subst hc
              simp only [blkMent, List.any_eq_false] at k2
              have := k2 y hy
              simp only [mentAny, Bool.not_eq_true, List.any_eq_false] at this
              simpa using this d1 hin
          refine { env := fun k u hk => ?_, box := fun s cells hb y hy => ?_, none := ?_ }
          · rcases ht.env k u hk with h3 | ⟨j, ⟨hj, hjon⟩, ob2, hjo⟩
            · exact hf0.env k u h3
            · exact (hsp j k u ob2 hj hjon hjo).1
          · rcases ht.blk s _ hb with h3 | ⟨j, ⟨hj, hjon⟩, v2, hjo⟩
            · exact hf0.box s cells h3 y hy
            · exact (hsp j s v2 _ hj hjon hjo).2 cells rfl y hy
          · cases hk : lk d1 τ.blk with
            | none => rfl
            | some b =>
              rcases ht.blk d1 b hk with h3 | ⟨j, ⟨hj, hjon⟩, v2, hjo⟩
              · rw [hf0.none] at h3; simp at h3
              · exact absurd (hne j v2 _ hj hjo ▸ hjon) h2
        have htog : ∀ τ', Added d1 v ob τ τ' → Tog ops.toList pl σ0 outs (fun j => j < pl.length ∧ On (listed.setIfInBounds i true) j) τ' := fun τ' hadd => by
          refine { tr := hadd.tr.trans ht.tr, base := fun k u hk => ?_, bblk := fun s b hb => ?_, has := fun j d2 v2 ob2 hj hjo => ?_, env := fun k u hk => ?_, blk := fun s b hb => ?_ }
          · rcases ht.base k u hk with ⟨j, hj, r⟩ | h6
            · exact .inl ⟨j, ⟨hj.1, (on_set hs h1).2 (.inr hj.2)⟩, r⟩
            · by_cases e : k = d1
              · cases hov : overAt ops.toList pl i with
                | true => exact .inl ⟨i, ⟨hip, (on_set hs h1).2 (.inl rfl)⟩, hov, oi, by simpa using ho, by rw [e]; exact hd⟩
                | false =>
                  rw [e, hn1 i oi d1 hip ho hd hov] at hk
                  simp at hk
              · exact .inr (by rw [hadd.env, if_neg e]; exact h6)
          · rw [hadd.blk]
            split
            · rename_i e; subst e
              cases ob with
              | none => exact ht.bblk _ b hb
              | some b1 => exact absurd hb (by
                  have := (hfresh (by simp)).none
                  have h5 := ht.bblk _ b hb
                  rw [this] at h5; simp at h5)
            · exact ht.bblk s b hb
          · rw [on_set hs h1] at hj
            by_cases e : j = i
            · subst e
              rw [houti] at hjo
              simp only [Option.some.injEq, Prod.mk.injEq] at hjo
              obtain ⟨rfl, rfl, rfl⟩ := hjo
              refine ⟨by rw [hadd.env, if_pos rfl], fun b hb => ?_⟩
              rw [hadd.blk, if_pos rfl, hb]; rfl
            · have hjon : On listed j := hj.2.resolve_left e
              have hd2 : d2 ≠ d1 := fun e2 => by subst e2; exact e (hne j v2 ob2 hj.1 hjo)
              obtain ⟨k1, k2⟩ := ht.has j d2 v2 ob2 ⟨hj.1, hjon⟩ hjo
              refine ⟨by rw [hadd.env, if_neg hd2]; exact k1, fun b hb => ?_⟩
              rw [hadd.blk, if_neg hd2]; exact k2 b hb
          · rw [hadd.env] at hk
            split at hk
            · rename_i e; subst e
              simp only [Option.some.injEq] at hk; subst hk
              exact .inr ⟨i, ⟨hip, (on_set hs h1).2 (.inl rfl)⟩, ob, houti⟩
            · exact (ht.env k u hk).imp id fun ⟨j, hj, r⟩ => ⟨j, ⟨hj.1, (on_set hs h1).2 (.inr hj.2)⟩, r⟩
          · rw [hadd.blk] at hb
            split at hb
            · rename_i e; subst e
              cases ob with
              | none => exact (ht.blk _ b (by simpa using hb)).imp id fun ⟨j, hj, r⟩ => ⟨j, ⟨hj.1, (on_set hs h1).2 (.inr hj.2)⟩, r⟩
              | some b1 =>
                simp only [Option.some_or, Option.some.injEq] at hb
                subst hb
                exact .inr ⟨i, ⟨hip, (on_set hs h1).2 (.inl rfl)⟩, v, houti⟩
            · exact (ht.blk s b hb).imp id fun ⟨j, hj, r⟩ => ⟨j, ⟨hj.1, (on_set hs h1).2 (.inr hj.2)⟩, r⟩
        rcases hcase with ⟨hg, ha⟩ | ⟨hg, rfl, rfl⟩
        · have hg' := guardA_mono (τ := τ) ⟨henv, fun s b hb => by simp [lk] at hb⟩ hg
          rw [if_pos (guardA_sound h hg')]
          obtain ⟨τ', hst, hadd⟩ := addA_step (keep := keep) (N := C.N) ⟨henv, hblk⟩ hd (hN i oi d1 hip ho hd) ha hfresh
          exact oper_in (stepA_nodefer hst) (stepA_sound hT hC h hst fun a' w' μ' Fz' Fy' h' => go h' (htog τ' hadd))
        · have hg' := guardA_mono (τ := τ) ⟨henv, fun s b hb => by simp [lk] at hb⟩ hg
          rw [if_neg (by simp [guardA_sound h hg'])]
          have hsk : skipS C.N τ (some d1) = { τ with env := put d1 (.tup []) τ.env } := by simp [skipS, hN i oi d1 hip ho hd]
          refine ⟨fun _ _ => trivial, ?_⟩
          have h' := h.skip' oi.dst
          rw [hd, hsk] at h'
          rw [hd]
          exact go h' (htog _ (added_put d1 (.tup []) τ))

/-- How a region that draws its order is run, by a plan. -/
def drawP (G : Pg) (keep : List Nat) (N : Nat) (ops : List Oper) (pl : Plan) (σ : St) : Option St :=
  drawA G keep N ops pl ops (prep (dstsP ops pl) (makers ops pl.length) σ)
/-- The plans of a function's regions, by their numbers. -/
def drawT (T : List (Nat × Plan)) (G : Pg) (L : Live) (N : Nat) : Drawer := fun id ops σ =>
  match lk id T with
  | none => none
  | some pl => if (planOk ops pl && (dsts ops pl.length).all fun d => decide (d < N)) = true then drawP G (kof L id).1 N ops pl σ else none
theorem prep_env {ds ms : List Nat} {σ : St} {d : Nat} (h : d ∈ ds) : lk d (prep ds ms σ).env = none := by
  simp only [prep, St.kill, lk_map, lk_rmL, h, if_true, Option.map_none]
theorem prep_fresh {ds ms : List Nat} {σ : St} {d : Nat} (h : d ∈ ms) : Fresh d (prep ds ms σ) := by
  have hk : ∀ v, ment 5 d (killV ms v) = false := fun v => by
    unfold killV
    split
    · rfl
    · rename_i hn
      simp only [List.any_eq_true, not_exists, not_and] at hn
      simpa using hn d h
  refine { env := fun k u hu => ?_, box := fun s cells hb y hy => ?_, none := ?_ }
  · simp only [prep, St.kill, lk_map, Option.map_eq_some_iff] at hu
    obtain ⟨u', _, rfl⟩ := hu
    exact hk u'
  · simp only [prep, St.kill, lk_map, Option.map_eq_some_iff] at hb
    obtain ⟨b', _, hb'⟩ := hb
    subst hb'
    rw [bcells_killB] at hy
    obtain ⟨y', _, rfl⟩ := List.mem_map.1 hy
    exact hk y'
  · simp only [prep, St.kill, lk_map, lk_rmL, h, if_true, Option.map_none]
theorem Sim.prep {σ : St} {a : Act} {w : World} {μ : Mu} {Fz Fy : Nat → Prop} (h : Sim C σ a w μ Fz Fy) (ds ms : List Nat) : Sim C (prep ds ms σ) a w μ Fz Fy := by
  unfold E.prep
  refine Sim.kill (h.sub (fun k v hk => ?_) fun s b hb => ?_) ms
  · simp only [lk_rmL] at hk
    split at hk
    · simp at hk
    · exact hk
  · simp only [lk_rmL] at hb
    split at hb
    · simp at hb
    · exact hb
theorem mem_dsts {ops : List Oper} {n i d : Nat} {o : Oper} (hi : i < n) (ho : ops[i]? = some o) (hd : o.dst = some d) : d ∈ dsts ops n :=
  List.mem_map.2 ⟨o, List.mem_of_getElem? (take_get hi ho), by simp [hd]⟩
theorem mem_makers {ops : List Oper} {n i d : Nat} {o : Oper} (hi : i < n) (ho : ops[i]? = some o) (hd : o.dst = some d) (hm : maker o.op = true) : d ∈ makers ops n :=
  List.mem_map.2 ⟨o, List.mem_filter.2 ⟨List.mem_of_getElem? (take_get hi ho), hm⟩, by simp [hd]⟩
/-- THE LAW OF THE REGIONS THAT DRAW THEIR ORDER. -/
theorem drawOk (hT : TOk G) (hC : CtxOk G) (hmix : G.P.follows .mixedOrders = true) (T : List (Nat × Plan)) (L : Live) (N : Nat) : DrawOk G N (drawT T G L N) := by
  intro C ro rm ops id σ σ' a w μ Fz Fy Q hCN hY hD h hQ
  subst hCN
  obtain ⟨pl, hpl, hN, hdr⟩ : ∃ pl, planOk ops.toList pl = true ∧ (∀ d ∈ dsts ops.toList pl.length, d < C.N) ∧ drawP G (kof L id).1 C.N ops.toList pl σ = some σ' := by
    unfold drawT at hD
    split at hD
    · simp at hD
    · rename_i pl _
      split at hD
      · rename_i hc
        simp only [Bool.and_eq_true, List.all_eq_true, decide_eq_true_eq] at hc
        exact ⟨pl, hc.1, hc.2, hD⟩
      · simp at hD
  have hp := planOk_sound hpl
  refine wpIn_region_any hmix ?_
  unfold drawP at hdr
  obtain ⟨outs, ho1, ho2, ho3⟩ := drawA_outs pl _ _ _ hdr
  have hw : Stays C σ w { w with drawn := w.drawn + 1 } μ Fy := Stays.of_below h ⟨rfl, rfl, rfl, Nat.le_refl _, fun _ _ => rfl⟩
  have h0 := (h.stays hw).prep (dstsP ops.toList pl) (makers ops.toList pl.length)
  have hoff : ∀ i, ¬ On (Array.replicate ops.size false) i := fun i => by
    simp only [On, Array.getD_eq_getD_getElem?, Array.getElem?_replicate]
    split <;> simp
  refine front_sound (keep := (kof L id).1) hT hC hp hY hQ (fun i o d hi ho hd => hN d (mem_dsts hi (by simpa using ho) hd)) ho1 ho2 (fun i e o out he ho hout => ho3 i e o out he (by simpa using ho) hout)
    (fun i o d hi ho hd hov => prep_env (by
      have hpi := List.getElem?_eq_getElem hi
      refine mem_dstsP (i := i) (o := o) (e := pl[i]) (by simpa using ho) hpi hd ?_
      unfold overAt at hov
      rw [show ops.toList[i]? = some o by simpa using ho, hpi] at hov
      exact hov)) (fun i o d hi ho hd hm => prep_fresh (mem_makers hi (by simpa using ho) hd hm))
    ops.size _ (by simp) (fun i hi => absurd hi (hoff i)) (fun i _ _ => hoff i) ?_ h0 ?_
  · exact Nat.le_trans (List.length_filter_le _ _) (by simp)
  · exact { tr := rfl, base := fun _ _ h => .inr h, bblk := fun _ _ h => h, has := fun j d v ob hj => absurd hj.2 (hoff j), env := fun k u hk => .inl hk, blk := fun s b hb => .inl hb }
theorem ex_draw {T : List (Nat × Plan)} {L : Live} {N n id : Nat} {ops : Array Oper} {σ σ' : St} {pl : Plan} (h2 : lk id T = some pl)
    (h3 : planOk ops.toList pl = true) (h4 : ((dsts ops.toList pl.length).all fun d => decide (d < N)) = true) (h5 : drawP G (kof L id).1 N ops.toList pl σ = some σ') :
    exec G L N (drawT T G L N) n (.region id ops true) σ = some (.normal, fin (kof L id) σ') := by
  have h6 : drawT T G L N id ops.toList σ = drawP G (kof L id).1 N ops.toList pl σ := by
    unfold drawT
    simp only [h2]
    rw [if_pos (by simp [h3, h4])]
  simp only [exec, if_true, h6, h5]
end
end Go.Proofs.Ytidiigajhbegeaa.E
namespace Go.Proofs.Ytidiigajhbegeaa.E
open Go Go.RowKit
set_option linter.unusedVariables false
set_option linter.unusedSimpArgs false

/-- What a run comes to. -/
def Ev (r : Option (Ex × St)) (Q : Ex → St → Prop) : Prop :=
  match r with
  | some (e, σ) => Q e σ
  | none => False
def EvO (r : Option St) (Q : St → Prop) : Prop :=
  match r with
  | some σ => Q σ
  | none => False
theorem Ev.get {r : Option (Ex × St)} {Q : Ex → St → Prop} (h : Ev r Q) : ∃ e σ, r = some (e, σ) ∧ Q e σ := by
  unfold Ev at h
  split at h
  · exact ⟨_, _, rfl, h⟩
  · exact h.elim
theorem EvO.get {r : Option St} {Q : St → Prop} (h : EvO r Q) : ∃ σ, r = some σ ∧ Q σ := by
  unfold EvO at h
  split at h
  · exact ⟨_, rfl, h⟩
  · exact h.elim
theorem ev_some {e : Ex} {σ : St} {Q : Ex → St → Prop} (h : Q e σ) : Ev (some (e, σ)) Q := h
theorem evo_some {σ : St} {Q : St → Prop} (h : Q σ) : EvO (some σ) Q := h
theorem Ev.mono {r : Option (Ex × St)} {Q Q' : Ex → St → Prop} (h : Ev r Q) (hq : ∀ e σ, Q e σ → Q' e σ) : Ev r Q' := by
  obtain ⟨e, σ, rfl, hQ⟩ := h.get
  exact hq e σ hQ
def finO (keep : List Nat × List Nat) : Option St → Option St
  | some σ => some (fin keep σ)
  | none => none
@[simp] theorem finO_some (keep : List Nat × List Nat) (σ : St) : finO keep (some σ) = some (fin keep σ) := rfl
theorem finO_eq {keep : List Nat × List Nat} {r : Option St} {σ' : St} (h : finO keep r = some σ') : ∃ τ, r = some τ ∧ fin keep τ = σ' := by
  cases r with
  | none => simp [finO] at h
  | some τ => exact ⟨τ, rfl, by simpa [finO] using h⟩
/-- Behind the first of two: on with the second, or out. -/
def Then (k : St → Prop) (Q : Ex → St → Prop) : Ex → St → Prop
  | .normal, σ => k σ
  | e, σ => Q e σ
def InBlock (id : Nat) (Q : Ex → St → Prop) : Ex → St → Prop
  | .normal, σ => Q .normal σ
  | .exit j, σ => if j = id then Q .normal σ else Q (.exit j) σ
  | .ret, σ => Q .ret σ
@[simp] theorem then_normal {k : St → Prop} {Q : Ex → St → Prop} {σ : St} : Then k Q .normal σ = k σ := rfl
@[simp] theorem then_exit {k : St → Prop} {Q : Ex → St → Prop} {σ : St} {i : Nat} : Then k Q (.exit i) σ = Q (.exit i) σ := rfl
@[simp] theorem then_ret {k : St → Prop} {Q : Ex → St → Prop} {σ : St} : Then k Q .ret σ = Q .ret σ := rfl
@[simp] theorem inBlock_normal {Q : Ex → St → Prop} {σ : St} {i : Nat} : InBlock i Q .normal σ = Q .normal σ := rfl
@[simp] theorem inBlock_ret {Q : Ex → St → Prop} {σ : St} {i : Nat} : InBlock i Q .ret σ = Q .ret σ := rfl
@[simp] theorem inBlock_exit {Q : Ex → St → Prop} {σ : St} {i j : Nat} : InBlock i Q (.exit j) σ = if j = i then Q .normal σ else Q (.exit j) σ := rfl

section
variable {G : Pg} {L : Live} {N n id : Nat} {D : Drawer} {x y c : Code} {σ σ1 σ2 σ' : St} {Q : Ex → St → Prop} {ops : Array Oper}
theorem ev_seq (h : Ev (exec G L N D n x σ) (Then (fun σ => Ev (exec G L N D n y σ) Q) Q)) : Ev (exec G L N D n (.seq x y) σ) Q := by
  obtain ⟨e, τ, h1, h2⟩ := h.get
  cases e with
  | normal => simp only [exec, h1]; exact h2
  | exit id => simp only [exec, h1]; exact h2
  | ret => simp only [exec, h1]; exact h2
theorem ev_reg (h1 : finO (kof L id) (runOps G (kof L id).1 N ops.toList ops.toList σ) = some σ') (h2 : Q .normal σ') : Ev (exec G L N D n (.region id ops false) σ) Q := by
  obtain ⟨τ, h1', rfl⟩ := finO_eq h1
  simp only [exec, h1', Bool.false_eq_true, if_false]
  exact h2
theorem ev_drw {T : List (Nat × Plan)} {pl : Plan} (h2 : lk id T = some pl)
    (h3 : planOk ops.toList pl = true) (h4 : ((dsts ops.toList pl.length).all fun d => decide (d < N)) = true) (h5 : finO (kof L id) (drawP G (kof L id).1 N ops.toList pl σ) = some σ') (h6 : Q .normal σ') :
    Ev (exec G L N (drawT T G L N) n (.region id ops true) σ) Q := by
  obtain ⟨τ, h5', rfl⟩ := finO_eq h5
  rw [ex_draw h2 h3 h4 h5']
  exact h6
theorem ev_cond {ro b : Bool} {t : Operand} (h : opd σ t = some (.fv ro (.bool b))) (h1 : b = true → Ev (exec G L N D n x σ) Q) (h2 : b = false → Ev (exec G L N D n y σ) Q) : Ev (exec G L N D n (.cond t x y) σ) Q := by
  cases b with
  | true => simp only [exec, h, if_true]; exact h1 rfl
  | false => simp only [exec, h, Bool.false_eq_true, if_false]; exact h2 rfl
theorem ev_skip (h : Q .normal σ) : Ev (exec G L N D n .skip σ) Q := h
theorem ev_exit (h : Q (.exit id) σ) : Ev (exec G L N D n (.exit id) σ) Q := h
theorem ev_scope (h : Ev (exec G L N D n c σ) Q) : Ev (exec G L N D n (.scope c) σ) Q := h
theorem ev_label {l : Nat} (h : Q .normal σ) : Ev (exec G L N D n (.label l) σ) Q := h
theorem ev_ret (h : Q .ret σ) : Ev (exec G L N D n .ret σ) Q := h
theorem ev_block (h : Ev (exec G L N D n c σ) (InBlock id Q)) : Ev (exec G L N D n (.block id c) σ) Q := by
  obtain ⟨e, τ, h1, h2⟩ := h.get
  cases e with
  | normal => simp only [exec, h1]; exact h2
  | exit j =>
    simp only [exec, h1]
    simp only [inBlock_exit] at h2
    split
    · rename_i e; rw [if_pos e] at h2; exact h2
    · rename_i e; rw [if_neg e] at h2; exact h2
  | ret => simp only [exec, h1]; exact h2
/-- A loop, by what holds ahead of each round, and a number that falls. -/
theorem ev_loop {α : Type} (S : α → St) (r : α → Nat) (I : α → Prop) (x0 : α) (h0 : σ = S x0) (hI : I x0) (hn : r x0 < n)
    (h : ∀ x, I x → Ev (exec G L N D n c (S x)) (Then (fun σ' => ∃ y, σ' = S y ∧ I y ∧ r y < r x) Q)) : Ev (exec G L N D n (.loop c) σ) Q := by
  subst h0
  simp only [exec]
  have key : ∀ m x, I x → r x < m → Ev (iter (exec G L N D n c) m (S x)) Q := by
    intro m
    induction m with
    | zero => intro x _ hm; omega
    | succ m ih =>
      intro x hx hm
      obtain ⟨e, τ, h1, h2⟩ := (h x hx).get
      simp only [iter, h1]
      cases e with
      | normal =>
        obtain ⟨y, rfl, hy, hlt⟩ := h2
        exact ih y hy (by omega)
      | exit id => exact h2
      | ret => exact h2
  exact key n x0 hI hn
end

/-- The rounds that a loop may take. -/
def R : Nat := 2 ^ 64
/-- A FUNCTION's LAW: its body's run comes to the results. -/
theorem valid_of_ev {G : Pg} (hT : TOk G) (hC : CtxOk G) (hmix : G.P.follows .mixedOrders = true) {k : FuncId} {fn : Func} (hf : G.P.funcs[k]? = some fn) (T : List (Nat × Plan)) (L : Live)
    {args : List (Bool × FV)} {res : List TV} (hargs : args.length ≤ fn.ntmps ∧ fn.ntmps ≤ 90000)
    (h : ∃ c, fn.body = some c ∧ Ev (exec G L fn.ntmps (drawT T G L fn.ntmps) R c (initSt args)) (fun e σ => (e = .normal ∨ e = .ret) ∧ ∃ vs, slotsA G σ fn.results.toList = some vs ∧ retsA σ [] vs = some res)) (hyl : G.yl = none := by rfl) : Valid G.P k args res := by
  obtain ⟨c, hb, hx⟩ := h
  obtain ⟨e, σ, h1, h2, vs, h3, h4⟩ := hx.get
  exact valid_of_exec hT hC hyl hf hb (D := drawT T G L fn.ntmps) (drawOk hT hC hmix T L fn.ntmps) R hargs h1 h2 h3 h4

/-- The law of a function to which a box is handed over. -/
theorem validB_of_ev {G : Pg} (hT : TOk G) (hC : CtxOk G) (hmix : G.P.follows .mixedOrders = true) {k : FuncId} {fn : Func} (hf : G.P.funcs[k]? = some fn) (T : List (Nat × Plan)) (L : Live)
    {cells args : List (Bool × FV)} {res : List TV} (hargs : args.length + 1 ≤ fn.ntmps ∧ fn.ntmps ≤ 90000)
    (h : ∃ c, fn.body = some c ∧ Ev (exec G L fn.ntmps (drawT T G L fn.ntmps) R c (initStB cells args)) (fun e σ => (e = .normal ∨ e = .ret) ∧ ∃ vs, slotsA G σ fn.results.toList = some vs ∧ retsA σ [] vs = some res)) (hyl : G.yl = none := by rfl) : ValidB G.P k cells args res := by
  obtain ⟨c, hb, hx⟩ := h
  obtain ⟨e, σ, h1, h2, vs, h3, h4⟩ := hx.get
  exact validB_of_exec hT hC hyl hf hb (D := drawT T G L fn.ntmps) (drawOk hT hC hmix T L fn.ntmps) R hargs h1 h2 h3 h4
/-- The law of an iterator: of what comes, behind so many rounds. -/
theorem it_of_ev {G : Pg} (hT : TOk G) (hC : CtxOk G) (hmix : G.P.follows .mixedOrders = true) {zs : List (List FV)} {st : Option Nat} (hyl : G.yl = some (some zs, st)) {k : FuncId} {fn : Func} (hf : G.P.funcs[k]? = some fn) (T : List (Nat × Plan)) (L : Live)
    {caps : List (Bool × FV)} (hargs : caps.length + 1 ≤ fn.ntmps ∧ fn.ntmps ≤ 90000)
    (h : ∃ c, fn.body = some c ∧ Ev (exec G L fn.ntmps (drawT T G L fn.ntmps) R c (initStY caps)) (fun e σ => (e = .normal ∨ e = .ret) ∧ σ.tr.length = zs.length ∧ ∃ vs, slotsA G σ fn.results.toList = some vs)) : ItOK G.P k caps zs st := by
  obtain ⟨c, hb, hx⟩ := h
  obtain ⟨e, σ, h1, h2, h3, vs, h4⟩ := hx.get
  exact it_of_exec hT hC hyl hf hb (D := drawT T G L fn.ntmps) (drawOk hT hC hmix T L fn.ntmps) R hargs h1 h2 h3 h4
attribute [irreducible] Ev
attribute [simp] mkMapA lookMap updMap updV updMapD bsX bsD vcellsL bcells bmapB fstr fnil cvtA arrA rangeA entA kmatch findF keyOK bs0A runOps guardA stepX pinA frzA callF ownF yldA inlA ans feq feqs feqs.feqs' keepN ownR upEnv dnEnv loEnv St.enter St.leave bindP stepA popA opd constV lk put rm asgA lenA indexA fieldA intN loadA look padd pres opds parts fbin fint fcmp unA nonnil nrm fin kpIf mentE inB memN popt subsl capOf clipOf TK.agg
attribute [simp] St.mk' St.drop St.kill St.ren renB killB allocA boxA vcells frees bsA mkA elemOf appA dstA dropO srcA listOf stoA vone setEl buildA placesA fillV splice partA aggCells mkAgg allF mkFn zgood cellsOK nagg self cellsOf flat flat1 slotsA retsA retA frz frzL callX callI callA callB srtA fnOf argsA addRes nm packV opds elemA elemsA addA addAsg addApp addBs0 addCall addRs addBs addMk drawP drawA prep pk rmL mentAny blkMent addO dsts dstsP over1 makers maker unsetS skipS
@[simp] theorem ment_top (n s : Nat) : ment (n + 1) s .top = false := rfl
@[simp] theorem ment_fv (n s : Nat) (ro : Bool) (x : FV) : ment (n + 1) s (.fv ro x) = false := rfl
@[simp] theorem ment_own (n s t o l : Nat) : ment (n + 1) s (.own t o l) = (t == s) := rfl
@[simp] theorem ment_ptr (n s t o : Nat) : ment (n + 1) s (.ptr t o) = (t == s) := rfl
@[simp] theorem ment_pel (n s t i j : Nat) : ment (n + 1) s (.pel t i j) = (t == s) := rfl
@[simp] theorem ment_map (n s t : Nat) : ment (n + 1) s (.map t) = (t == s) := rfl
@[simp] theorem ment_agg (n s : Nat) (cs : List V) : ment (n + 1) s (.agg cs) = cs.any (ment n s) := rfl
@[simp] theorem ment_tup (n s : Nat) (cs : List V) : ment (n + 1) s (.tup cs) = cs.any (ment n s) := rfl
@[simp] theorem ment_fn (n s : Nat) (f : Fn) (a b : List V) : ment (n + 1) s (.fn f a b) = (a.any (ment n s) || b.any (ment n s)) := rfl
@[simp] theorem killV_nil (v : V) : killV [] v = v := rfl
@[simp] theorem killV_top (ns : List Nat) : killV ns .top = .top := by unfold killV; split <;> rfl
@[simp] theorem killV_fv (ns : List Nat) (ro : Bool) (x : FV) : killV ns (.fv ro x) = .fv ro x := by simp [killV]
@[simp] theorem killV_own (ns : List Nat) (t o l : Nat) : killV ns (.own t o l) = if ns.any (t == ·) = true then .top else .own t o l := by simp [killV]
@[simp] theorem killV_ptr (ns : List Nat) (t o : Nat) : killV ns (.ptr t o) = if ns.any (t == ·) = true then .top else .ptr t o := by simp [killV]
@[simp] theorem killV_pel (ns : List Nat) (t i j : Nat) : killV ns (.pel t i j) = if ns.any (t == ·) = true then .top else .pel t i j := by simp [killV]
@[simp] theorem killV_map (ns : List Nat) (t : Nat) : killV ns (.map t) = if ns.any (t == ·) = true then .top else .map t := by simp [killV]
@[simp] theorem killV_agg (ns : List Nat) (cs : List V) : killV ns (.agg cs) = if ns.any (fun s => cs.any (ment 4 s)) = true then .top else .agg cs := by simp [killV]
@[simp] theorem killV_tup (ns : List Nat) (cs : List V) : killV ns (.tup cs) = if ns.any (fun s => cs.any (ment 4 s)) = true then .top else .tup cs := by simp [killV]
@[simp] theorem killV_fn (ns : List Nat) (f : Fn) (a b : List V) : killV ns (.fn f a b) = if ns.any (fun s => a.any (ment 4 s) || b.any (ment 4 s)) = true then .top else .fn f a b := by simp [killV]
@[simp] theorem renV_top (s k n : Nat) : renV s k (n + 1) .top = .top := rfl
@[simp] theorem renV_fv (s k n : Nat) (ro : Bool) (x : FV) : renV s k (n + 1) (.fv ro x) = .fv ro x := rfl
@[simp] theorem renV_own (s k n t o l : Nat) : renV s k (n + 1) (.own t o l) = .own (if t = s then k else t) o l := rfl
@[simp] theorem renV_ptr (s k n t o : Nat) : renV s k (n + 1) (.ptr t o) = .ptr (if t = s then k else t) o := rfl
@[simp] theorem renV_pel (s k n t i j : Nat) : renV s k (n + 1) (.pel t i j) = .pel (if t = s then k else t) i j := rfl
@[simp] theorem renV_map (s k n t : Nat) : renV s k (n + 1) (.map t) = .map (if t = s then k else t) := rfl
@[simp] theorem renV_agg (s k n : Nat) (cs : List V) : renV s k (n + 1) (.agg cs) = .agg (cs.map (renV s k n)) := rfl
@[simp] theorem renV_tup (s k n : Nat) (cs : List V) : renV s k (n + 1) (.tup cs) = .tup (cs.map (renV s k n)) := rfl
@[simp] theorem renV_fn (s k n : Nat) (f : Fn) (a b : List V) : renV s k (n + 1) (.fn f a b) = .fn f (a.map (renV s k n)) (b.map (renV s k n)) := rfl
@[simp] theorem ints_getElem (l : List Int) (i : Nat) (h : i < (ints l).length) : (ints l)[i] = .int .i64 (l[i]'(by simpa using h)) := by simp [ints]
@[simp] theorem argsA_fv (σ : St) (ro : Bool) : ∀ caps : List FV, argsA σ (caps.map (.fv ro)) = some (caps.map fun y => (ro, y))
  | [] => rfl
  | x :: r => by simp [argsA_fv σ ro r]
end Go.Proofs.Ytidiigajhbegeaa.E
