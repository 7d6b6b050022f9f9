/-
  The engine, part h: what a view holds, as a value that nobody writes to any more; a new block under a name. Conditions: none; it is stated of any program and table of its types.
-/
import Derived.Test.YtoafhoihigfllaaEg
namespace Go.Proofs.Ytoafhoihigfllaa.E
open Go Go.RowKit
set_option linter.unusedVariables false

/-! ### A value, fixed: the names of the blocks that it reaches; whether it may be read alone; the value -/
abbrev Fix := List Nat × Bool × FV
def frzL (f : V → Option Fix) : List V → Option (List Nat × Bool × List FV)
  | [] => some ([], false, [])
  | v :: r => match f v, frzL f r with
    | some (ns, ro, x), some (ms, ro', xs) => some (ns ++ ms, ro || ro', x :: xs)
    | _, _ => none
def self (s : Nat) : List V → Option (List V × List V)
  | [] => none
  | .ptr t 0 :: r => if t = s then some ([], r) else match self s r with
    | some (p, q) => some (.ptr t 0 :: p, q)
    | none => none
  | v :: r => match self s r with
    | some (p, q) => some (v :: p, q)
    | none => none
def frz (σ : St) : Nat → V → Option Fix
  | 0, _ => none
  | n + 1, v => match v with
    | .fv ro x => some ([], ro, x)
    | .own s off len => match lk s σ.blk with
      | some (.arr sz xs) => some ([s], false, .sl false sz ((xs.drop off).take len))
      | _ => none
    | .pel s i j => match lk s σ.blk with
      | some (.arr _ xs) => match xs[i]? with
        | some x => some ([s], false, .pt (cellsOf x) j)
        | none => none
      | _ => none
    | .ptr s off => match lk s σ.blk with
      | some (.box cells) =>
        match (match cells, off with | [.fn (.func f) [] caps], 0 => (self s caps).map fun pq => (f, pq.1, pq.2) | _, _ => none) with
        | some (f, pre, post) => match frzL (frz σ n) pre, frzL (frz σ n) post with
          | some (ns, ro, xs), some (ms, ro', ys) => some (s :: (ns ++ ms), ro || ro', .rb f xs ys)
          | _, _ => none
        | none => match frzL (frz σ n) cells with
          | some (ns, ro, xs) => some (s :: ns, ro, .pt xs off)
          | none => none
      | _ => none
    | .agg cells => match frzL (frz σ n) cells with
      | some (ns, ro, xs) => some (ns, ro, .agg xs)
      | none => none
    | .fn f first captured => match frzL (frz σ n) first, frzL (frz σ n) captured with
      | some (ns, ro, xs), some (ms, ro', ys) => some (ns ++ ms, ro || ro', .fn f xs ys)
      | _, _ => none
    | _ => none

def Of (μ : Mu) (Z : Nat → Prop) (ns : List Nat) : Nat → Prop := fun b => Z b ∨ ∃ s, s ∈ ns ∧ ∃ base, μ s = some (b, base)
theorem self_split {s : Nat} : ∀ {l p q : List V}, self s l = some (p, q) → l = p ++ .ptr s 0 :: q
  | [], p, q, h => by simp [self] at h
  | v :: r, p, q, h => by
    unfold self at h
    split at h
    · simp at *
    · rename_i t r' heq
      simp only [List.cons.injEq] at heq
      obtain ⟨rfl, rfl⟩ := heq
      split at h
      · rename_i e
        simp only [Option.some.injEq, Prod.mk.injEq] at h
        obtain ⟨rfl, rfl⟩ := h
        simp [e]
      · split at h
        · rename_i p' q' hr
          simp only [Option.some.injEq, Prod.mk.injEq] at h
          obtain ⟨rfl, rfl⟩ := h
          simp [self_split hr]
        · simp at h
    · rename_i v' r' hne heq
      simp only [List.cons.injEq] at heq
      obtain ⟨rfl, rfl⟩ := heq
      split at h
      · rename_i p' q' hr
        simp only [Option.some.injEq, Prod.mk.injEq] at h
        obtain ⟨rfl, rfl⟩ := h
        simp [self_split hr]
      · simp at h
section
variable {C : Base} {σ : St} {a : Act} {w : World} {μ : Mu} {Fz Fy : Nat → Prop} {G : Pg}
theorem RepF.wider {Z Z' : Nat → Prop} {x : FV} {v : Value} (h : RepF Z w x v) (hz : ∀ b, Z b → Z' b) : RepF Z' w x v := h.mono hz (fun _ _ => rfl)
theorem roF_left (hzy : ∀ b, Fz b → Fy b) {r1 r2 : Bool} {b : Nat} (h : roF Fz Fy r1 b) : roF Fz Fy (r1 || r2) b := by
  cases r1 <;> cases r2 <;> simp only [roF, Bool.or_true, Bool.or_false, if_true, Bool.false_eq_true, if_false] at h ⊢ <;> first | exact h | exact hzy _ h
theorem roF_right (hzy : ∀ b, Fz b → Fy b) {r1 r2 : Bool} {b : Nat} (h : roF Fz Fy r2 b) : roF Fz Fy (r1 || r2) b := by
  rw [Bool.or_comm]; exact roF_left hzy h
theorem frzL_sound (f : V → Option Fix) (g : Nat → Value)
    (hf : ∀ {x ns ro y v}, f x = some (ns, ro, y) → RepV μ (shs σ) Fz Fy w x v → (∀ s ∈ ns, lk s σ.blk ≠ none) ∧ RepF (Of μ (roF Fz Fy ro) ns) w y v) (hzy : ∀ b, Fz b → Fy b) :
    ∀ {cs : List V} {ns : List Nat} {ro : Bool} {xs : List FV} (k : Nat), frzL f cs = some (ns, ro, xs) → (∀ (j : Nat) (y : V), cs[j]? = some y → RepV μ (shs σ) Fz Fy w y (g (k + j))) →
      (∀ s ∈ ns, lk s σ.blk ≠ none) ∧ xs.length = cs.length ∧ ∀ (j : Nat) (y : FV), xs[j]? = some y → RepF (Of μ (roF Fz Fy ro) ns) w y (g (k + j))
  | [], ns, ro, xs, k, h, hr => by
    simp only [frzL, Option.some.injEq, Prod.mk.injEq] at h
    obtain ⟨rfl, rfl, rfl⟩ := h
    simp
  | c :: cs, ns, ro, xs, k, h, hr => by
    simp only [frzL] at h
    split at h
    · rename_i n1 r1 x n2 r2 ys h1 h2
      simp only [Option.some.injEq, Prod.mk.injEq] at h
      obtain ⟨rfl, rfl, rfl⟩ := h
      obtain ⟨a1, a2⟩ := hf h1 (hr 0 c rfl)
      obtain ⟨b1, b2, b3⟩ := frzL_sound f g hf hzy (k + 1) h2 (fun j y hj => by have := hr (j + 1) y (by simpa using hj); rwa [show k + (j + 1) = k + 1 + j from by omega] at this)
      refine ⟨fun s hs => ?_, by simp [b2], fun j y hj => ?_⟩
      · rcases List.mem_append.1 hs with hs | hs
        · exact a1 s hs
        · exact b1 s hs
      · cases j with
        | zero =>
          simp only [List.getElem?_cons_zero, Option.some.injEq] at hj; subst hj
          refine a2.wider fun b hb => ?_
          rcases hb with hb | ⟨s, hs, hm⟩
          · exact .inl (roF_left hzy hb)
          · exact .inr ⟨s, List.mem_append_left _ hs, hm⟩
        | succ j =>
          have := b3 j y (by simpa using hj)
          rw [show k + (j + 1) = k + 1 + j from by omega]
          refine this.wider fun b hb => ?_
          rcases hb with hb | ⟨s, hs, hm⟩
          · exact .inl (roF_right hzy hb)
          · exact .inr ⟨s, List.mem_append_right _ hs, hm⟩
    · simp at h
theorem frz_sound (h : Sim C σ a w μ Fz Fy) : ∀ (n : Nat) {x : V} {ns : List Nat} {ro : Bool} {y : FV} {v : Value}, frz σ n x = some (ns, ro, y) → RepV μ (shs σ) Fz Fy w x v →
    (∀ s ∈ ns, lk s σ.blk ≠ none) ∧ RepF (Of μ (roF Fz Fy ro) ns) w y v
  | 0, _, _, _, _, _, hx, _ => by simp [frz] at hx
  | n + 1, x, ns, ro, y, v, hx, hv => by
    have ih := @frz_sound h n
    simp only [frz] at hx
    split at hx
    · simp only [Option.some.injEq, Prod.mk.injEq] at hx
      obtain ⟨rfl, rfl, rfl⟩ := hx
      cases hv with
      | fv _ _ _ hv => exact ⟨by simp, hv.wider fun b hb => .inl hb⟩
    · rename_i s off len
      split at hx
      · rename_i sz xs hb
        simp only [Option.some.injEq, Prod.mk.injEq] at hx
        obtain ⟨rfl, rfl, rfl⟩ := hx
        refine ⟨by simp [hb], ?_⟩
        cases hv with
        | ownx _ _ _ _ hx => simp [shs, hb] at hx
        | own _ _ _ ad cap sz' n' hs hn hc hm =>
        simp only [shs, hb, Option.map_some, shp, Option.some.injEq, Prod.mk.injEq] at hs
        obtain ⟨rfl, rfl⟩ := hs
        by_cases hl : len = 0
        · subst hl
          simp only [List.take_zero]
          exact .sl0 _ _ _ _ (by simp)
        · rcases hm with hm | ⟨b, base, hm, rfl, hroom⟩
          · omega
          · have hB := h.blk s _ hb
            cases hB with
            | nil => simp at hn; omega
            | arr _ _ b' base' c e hm' hh hcc hsz hr =>
            rw [hm] at hm'
            simp only [Option.some.injEq, Prod.mk.injEq] at hm'
            obtain ⟨rfl, rfl⟩ := hm'
            refine .sl _ _ _ b (base + off * sz) len cap (fun i j => c.getD (base + ((off + i) * sz + j)) undef) (by simp; omega) hc (by simp) (.inr ⟨s, by simp, base, hm⟩) ?_ ?_ ?_
            · intro i x hi; exact hsz _ x (drop_take_get hi).1
            · intro i x j y hi hj
              obtain ⟨h1, h2⟩ := drop_take_get hi
              have hxl := ok_len (hsz _ x h1)
              have hjl : j < sz := by rw [← hxl]; exact (List.getElem?_eq_some_iff.1 hj).1
              have hlt : (off + i + 1) * sz ≤ xs.length * sz := Nat.mul_le_mul_right _ (List.getElem?_eq_some_iff.1 h1).1
              rw [Nat.add_mul] at hlt
              have e1 : base + off * sz + (i * sz + j) = base + ((off + i) * sz + j) := by rw [Nat.add_mul]; omega
              rw [e1]
              exact cell_of_heap hh (by omega)
            · intro i x j y hi hj
              exact (hr _ x j y (drop_take_get hi).1 hj).wider fun b hb => .inl (by simpa [roF] using hb)
      · simp at hx
    · rename_i s i j
      split at hx
      · rename_i sz xs hb
        split at hx
        · rename_i x hxi
          simp only [Option.some.injEq, Prod.mk.injEq] at hx
          obtain ⟨rfl, rfl, rfl⟩ := hx
          refine ⟨by simp [hb], ?_⟩
          cases hv with
          | pelx _ _ _ _ hx => simp [shs, hb] at hx
          | pel _ _ _ sz' n' b base hs hi hm =>
          simp only [shs, hb, Option.map_some, shp, Option.some.injEq, Prod.mk.injEq] at hs
          obtain ⟨rfl, rfl⟩ := hs
          have hB := h.blk s _ hb
          cases hB with
          | nil => simp at hxi
          | arr _ _ b' base' c e hm' hh hcc hsz hr =>
          rw [hm] at hm'
          simp only [Option.some.injEq, Prod.mk.injEq] at hm'
          obtain ⟨rfl, rfl⟩ := hm'
          rw [← Nat.add_assoc]
          refine .pt (cellsOf x) j b (base + i * sz) (fun j => c.getD (base + (i * sz + j)) undef) (.inr ⟨s, by simp, base, hm⟩) ?_ ?_
          · intro j y hj
            have hxl := ok_len (hsz i x hxi)
            have hjl : j < sz := by rw [← hxl]; exact (List.getElem?_eq_some_iff.1 hj).1
            have hlt : (i + 1) * sz ≤ xs.length * sz := Nat.mul_le_mul_right _ hi
            rw [Nat.add_mul] at hlt
            rw [Nat.add_assoc]
            exact cell_of_heap hh (by omega)
          · intro j y hj
            exact (hr i x j y hxi hj).wider fun b hb => .inl (by simpa [roF] using hb)
        · simp at hx
      · simp at hx
    · rename_i s off
      split at hx
      · rename_i cells hb
        have hB := h.blk s _ hb
        cases hB with
        | box _ b c e hm hh hc hr =>
        cases hv with
        | ptrx _ _ _ hx => simp [shs, hb] at hx
        | ptr _ _ b' base hm' =>
        rw [hm] at hm'
        simp only [Option.some.injEq, Prod.mk.injEq] at hm'
        obtain ⟨rfl, rfl⟩ := hm'
        split at hx
        · rename_i f pre post hsp
          split at hsp
          · rename_i f' caps
            simp only [Option.map_eq_some_iff, Prod.mk.injEq] at hsp
            obtain ⟨⟨p, q⟩, hself, rfl, rfl, rfl⟩ := hsp
            have hcaps := self_split hself
            split at hx
            · rename_i n1 r1 xs n2 r2 ys h1 h2
              simp only [Option.some.injEq, Prod.mk.injEq] at hx
              obtain ⟨rfl, rfl, rfl⟩ := hx
              have hcell := hr 0 _ rfl
              generalize hcv : c.getD 0 undef = cv at hcell
              cases hcell with
              | fn _ _ _ vf vc hs1 hs2 hr1 hr2 =>
              subst hcaps
              simp only [List.length_append, List.length_cons] at hs2
              have hselfv := hr2 p.length (.ptr s 0) (by simp)
              have hsp : vc.getD p.length undef = .pointer (some ⟨b, 0, none⟩) := by
                generalize vc.getD p.length undef = u at hselfv
                cases hselfv with
                | ptrx _ _ _ hx => simp [shs, hb] at hx
                | ptr _ _ b' base' hm' =>
                  rw [hm] at hm'
                  simp only [Option.some.injEq, Prod.mk.injEq] at hm'
                  obtain ⟨rfl, rfl⟩ := hm'
                  rfl
              have hvf : vf = #[] := by apply Array.eq_empty_of_size_eq_zero; simpa using hs1
              subst hvf
              obtain ⟨a1, a2, a3⟩ := frzL_sound (frz σ n) (fun j => vc.getD j undef) (fun hx hv => ih hx hv) h.zy 0 h1 (fun j y hj => by
                have := hr2 j y (by rw [List.getElem?_append_left (List.getElem?_eq_some_iff.1 hj).1]; exact hj); simpa using this)
              obtain ⟨b1, b2, b3⟩ := frzL_sound (frz σ n) (fun j => vc.getD j undef) (fun hx hv => ih hx hv) h.zy (p.length + 1) h2 (fun j y hj => by
                refine hr2 (p.length + 1 + j) y ?_
                rw [List.getElem?_append_right (by omega), show p.length + 1 + j - p.length = j + 1 from by omega]
                simpa using hj)
              replace a2 : xs.length = p.length := a2
              replace b2 : ys.length = q.length := b2
              refine ⟨fun t ht => ?_, ?_⟩
              · rcases List.mem_cons.1 ht with rfl | ht
                · simp [hb]
                · rcases List.mem_append.1 ht with ht | ht
                  · exact a1 t ht
                  · exact b1 t ht
              · have hvc : vc = (vc.extract 0 p.length) ++ #[.pointer (some ⟨b, 0, none⟩)] ++ (vc.extract (p.length + 1) vc.size) := by
                  apply Array.ext_getElem?
                  intro i
                  rcases Nat.lt_trichotomy i p.length with hlt | heq | hgt
                  · rw [Array.getElem?_append_left (by simp; omega), Array.getElem?_append_left (by simp; omega), Array.getElem?_extract, if_pos (by omega)]
                    simp
                  · subst heq
                    have h0 : p.length < vc.size := by omega
                    rw [Array.getElem?_append_left (by simp; omega), Array.getElem?_append_right (by simp; omega)]
                    simp only [Array.size_extract]
                    have e0 : p.length - (min p.length vc.size - 0) = 0 := by omega
                    rw [e0, Array.getElem?_eq_getElem h0]
                    simp only [Array.getD_eq_getD_getElem?, Array.getElem?_eq_getElem h0, Option.getD_some] at hsp
                    simp [hsp]
                  · rw [Array.getElem?_append_right (by simp; omega)]
                    simp only [Array.size_append, Array.size_extract, List.size_toArray, List.length_cons, List.length_nil, Array.getElem?_extract]
                    have e0 : min p.length vc.size - 0 = p.length := by omega
                    rw [e0]
                    by_cases hi : i < vc.size
                    · rw [if_pos (by omega)]; congr 1; omega
                    · rw [if_neg (by omega), Array.getElem?_eq_none (by omega)]
                have hcell0 : w.cell? ⟨b, 0, none⟩ = some (.func (.func f') #[] vc) := by
                  have := cell_of_heap hh (o := 0) (by rw [hc]; simp)
                  rw [this, hcv]
                rw [hvc] at hcell0
                refine .rb f' xs ys b 0 (vc.extract 0 p.length) (vc.extract (p.length + 1) vc.size) (.inr ⟨s, by simp, 0, hm⟩) (by rw [Array.size_extract]; omega) (by rw [Array.size_extract]; omega) hcell0 ?_ ?_
                · intro j y hj
                  have hjl : j < p.length := by rw [← a2]; exact (List.getElem?_eq_some_iff.1 hj).1
                  have := a3 j y hj
                  have e0 : (vc.extract 0 p.length).getD j undef = vc.getD (0 + j) undef := by
                    have : j < vc.size := by omega
                    simp [Array.getD_eq_getD_getElem?, show j < min p.length vc.size from by omega, this]
                  rw [e0]
                  refine this.wider fun b hb => ?_
                  rcases hb with hb | ⟨t, ht, hm⟩
                  · exact .inl (roF_left h.zy hb)
                  · exact .inr ⟨t, by simp [ht], hm⟩
                · intro j y hj
                  have hjl : j < q.length := by rw [← b2]; exact (List.getElem?_eq_some_iff.1 hj).1
                  have := b3 j y hj
                  have e0 : (vc.extract (p.length + 1) vc.size).getD j undef = vc.getD (p.length + 1 + j) undef := by
                    simp [Array.getD_eq_getD_getElem?, show j < vc.size - (p.length + 1) from by omega, show p.length + 1 + j < vc.size from by omega]
                  rw [e0]
                  refine this.wider fun b hb => ?_
                  rcases hb with hb | ⟨t, ht, hm⟩
                  · exact .inl (roF_right h.zy hb)
                  · exact .inr ⟨t, by simp [ht], hm⟩
            · simp at hx
          · simp at hsp
        · split at hx
          · rename_i n1 r1 xs h1
            simp only [Option.some.injEq, Prod.mk.injEq] at hx
            obtain ⟨rfl, rfl, rfl⟩ := hx
            obtain ⟨a1, a2, a3⟩ := frzL_sound (frz σ n) (fun j => c.getD j undef) (fun hx hv => ih hx hv) h.zy 0 h1 (fun j y hj => by simpa using hr j y hj)
            refine ⟨fun t ht => ?_, ?_⟩
            · rcases List.mem_cons.1 ht with rfl | ht
              · simp [hb]
              · exact a1 t ht
            · refine .pt xs off b 0 (fun j => c.getD j undef) (.inr ⟨s, by simp, 0, hm⟩) ?_ ?_
              · intro j y hj
                rw [Nat.zero_add]
                exact cell_of_heap hh (by rw [hc, ← a2]; exact (List.getElem?_eq_some_iff.1 hj).1)
              · intro j y hj
                have := a3 j y hj
                rw [Nat.zero_add] at this
                refine this.wider fun b hb => ?_
                rcases hb with hb | ⟨t, ht, hm⟩
                · exact .inl hb
                · exact .inr ⟨t, by simp [ht], hm⟩
          · simp at hx
      · simp at hx
    · split at hx
      · rename_i n1 r1 xs h1
        simp only [Option.some.injEq, Prod.mk.injEq] at hx
        obtain ⟨rfl, rfl, rfl⟩ := hx
        cases hv with
        | agg _ vs hs hr =>
        obtain ⟨a1, a2, a3⟩ := frzL_sound (frz σ n) (fun j => vs.getD j undef) (fun hx hv => ih hx hv) h.zy 0 h1 (fun j y hj => by simpa using hr j y hj)
        exact ⟨a1, .agg _ vs (by rw [hs, a2]) fun j y hj => by simpa using a3 j y hj⟩
      · simp at hx
    · split at hx
      · rename_i n1 r1 xs n2 r2 ys h1 h2
        simp only [Option.some.injEq, Prod.mk.injEq] at hx
        obtain ⟨rfl, rfl, rfl⟩ := hx
        cases hv with
        | fn _ _ _ vf vc hs hs' hr hr' =>
        obtain ⟨a1, a2, a3⟩ := frzL_sound (frz σ n) (fun j => vf.getD j undef) (fun hx hv => ih hx hv) h.zy 0 h1 (fun j y hj => by simpa using hr j y hj)
        obtain ⟨b1, b2, b3⟩ := frzL_sound (frz σ n) (fun j => vc.getD j undef) (fun hx hv => ih hx hv) h.zy 0 h2 (fun j y hj => by simpa using hr' j y hj)
        refine ⟨fun t ht => ?_, .fn _ _ _ vf vc (by rw [hs, a2]) (by rw [hs', b2]) (fun j y hj => ?_) (fun j y hj => ?_)⟩
        · rcases List.mem_append.1 ht with ht | ht
          · exact a1 t ht
          · exact b1 t ht
        · have := a3 j y hj
          rw [Nat.zero_add] at this
          refine this.wider fun b hb => ?_
          rcases hb with hb | ⟨t, ht, hm⟩
          · exact .inl (roF_left h.zy hb)
          · exact .inr ⟨t, by simp [ht], hm⟩
        · have := b3 j y hj
          rw [Nat.zero_add] at this
          refine this.wider fun b hb => ?_
          rcases hb with hb | ⟨t, ht, hm⟩
          · exact .inl (roF_right h.zy hb)
          · exact .inr ⟨t, by simp [ht], hm⟩
      · simp at hx
    · simp at hx
end
end Go.Proofs.Ytoafhoihigfllaa.E
