/-
  The engine, part j: append. Conditions: none; it is stated of any program and table of its types.
-/
import Derived.Test.YtoafhoihigfllaaEi
import Derived.Laws.CopyOwn
namespace Go.Proofs.Ytoafhoihigfllaa.E
open Go Go.RowKit
set_option linter.unusedVariables false

/-- A slice's value, of which the cells are known: cell k holds g k. -/
structure Src (Fz : Nat → Prop) (w : World) (sz : Nat) (ys : List FV) (ad : Option Addr) (g : Nat → Value) : Prop where
  cell : ∀ k, k < ys.length * sz → ∃ b, ad = some b ∧ w.cell? (b.add k) = some (g k)
  ok : ∀ (i : Nat) (y : FV), ys[i]? = some y → cellsOK sz y = true
  rep : ∀ (i : Nat) (y : FV) (j : Nat) (z : FV), ys[i]? = some y → (cellsOf y)[j]? = some z → RepF Fz w z (g (i * sz + j))
theorem Src.one {Fz : Nat → Prop} {w : World} {sz : Nat} {ys : List FV} {ad : Option Addr} {g : Nat → Value} (h : Src Fz w sz ys ad g) {k : Nat} (hk : k < ys.length * sz) : (g k).oneCell' = true := by
  have hsz : 0 < sz := by rcases Nat.eq_zero_or_pos sz with e | e; · subst e; simp at hk
                          · exact e
  have hi : k / sz < ys.length := (Nat.div_lt_iff_lt_mul hsz).2 hk
  have hok := h.ok _ _ (List.getElem?_eq_getElem hi)
  have hj : k % sz < (cellsOf ys[k / sz]).length := by rw [ok_len hok]; exact Nat.mod_lt _ hsz
  have hr := h.rep _ _ _ _ (List.getElem?_eq_getElem hi) (List.getElem?_eq_getElem hj)
  have e : k / sz * sz + k % sz = k := by rw [Nat.mul_comm]; exact Nat.div_add_mod k sz
  rw [e] at hr
  exact hr.one (ok_nagg hok (List.getElem?_eq_getElem hj))
def listOf (n : Nat) (g : Nat → Value) : List Value := (List.range n).map g
theorem Src.first {P : Program} {Fz : Nat → Prop} {w : World} {sz : Nat} {ys : List FV} {ad : Option Addr} {g : Nat → Value} (h : Src Fz w sz ys ad g) (w' : World) (hw : ∀ a, w'.cell? a = w.cell? a) (c : Nat) :
    (Builtin.firstCells sz ys.length (.slice ad ys.length c)).run P w' = .ok (listOf (ys.length * sz) g).toArray w' := by
  cases ad with
  | none =>
    have : ys.length * sz = 0 := by
      rcases Nat.eq_zero_or_pos (ys.length * sz) with e | e
      · exact e
      · obtain ⟨b, hb, _⟩ := h.cell 0 e; simp at hb
    simp [Builtin.firstCells, this, listOf]
  | some b =>
    simp only [Builtin.firstCells]
    refine run_loadCells' g b w' _ fun j hj => ?_
    obtain ⟨b', hb, hc⟩ := h.cell j hj
    simp only [Option.some.injEq] at hb; subst hb
    rw [hw]; exact hc
theorem getD_listOf {n k : Nat} (g : Nat → Value) (h : k < n) : (listOf n g)[k]? = some (g k) := by simp [listOf, h]

def srcA (σ : St) (sz : Nat) : V → Option (List FV)
  | .own s off len => match lk s σ.blk with
    | some (.arr sz' xs) => if sz' = sz then some ((xs.drop off).take len) else none
    | _ => none
  | .fv ro (.sl _ sz' xs) => if (!ro || xs.all flat) = true ∧ (sz' == sz || xs.isEmpty) = true then some xs else none
  | _ => none
section
variable {C : Base} {σ : St} {a : Act} {w w' : World} {μ : Mu} {Fz Fy : Nat → Prop} {G : Pg}
theorem flat_of_flat {x y : FV} (h : flat x = true) {j : Nat} (hj : (cellsOf x)[j]? = some y) : flat y = true := by
  cases x with
  | agg cs =>
    simp only [flat, List.all_eq_true] at h
    have := h y (List.mem_of_getElem? hj)
    cases y <;> simp_all [flat, flat1]
  | _ =>
    simp only [cellsOf] at hj
    cases j with
    | zero => simp at hj; subst hj; exact h
    | succ j => simp at hj
theorem srcA_sound (h : Sim C σ a w μ Fz Fy) {sz : Nat} {x : V} {ys : List FV} (hx : srcA σ sz x = some ys) {v : Value} (hv : RepV μ (shs σ) Fz Fy w x v) :
    ∃ ad c g, v = .slice ad ys.length c ∧ ys.length ≤ c ∧ Src Fz w sz ys ad g := by
  unfold srcA at hx
  split at hx
  · rename_i s off len
    split at hx
    · rename_i sz' xs hb
      split at hx
      · rename_i e
        subst e
        simp only [Option.some.injEq] at hx; subst hx
        cases hv with
        | ownx _ _ _ _ hx => simp [shs, hb] at hx
        | own _ _ _ ad cap sz' n' hs hn hc hm =>
        simp only [shs, hb, Option.map_some, shp, Option.some.injEq, Prod.mk.injEq] at hs
        obtain ⟨rfl, rfl⟩ := hs
        have hlen : ((xs.drop off).take len).length = len := by simp; omega
        by_cases hl : len = 0
        · subst hl
          refine ⟨ad, cap, fun _ => undef, by simp, by simp, ⟨?_, ?_, ?_⟩⟩ <;> simp
        · rcases hm with hm | ⟨b, base, hm, rfl, hroom⟩
          · omega
          · have hB := h.blk s _ hb
            cases hB with
            | nil => simp at hn; omega
            | arr _ _ b' base' c e hm' hh hcc hsz hr =>
            rw [hm] at hm'
            simp only [Option.some.injEq, Prod.mk.injEq] at hm'
            obtain ⟨rfl, rfl⟩ := hm'
            refine ⟨_, cap, fun k => c.getD (base + off * sz' + k) undef, by rw [hlen], by omega, ⟨?_, ?_, ?_⟩⟩
            · intro k hk
              rw [hlen] at hk
              refine ⟨_, rfl, ?_⟩
              rw [add_zero' _ rfl]
              have : (off + len) * sz' ≤ xs.length * sz' := Nat.mul_le_mul_right _ hn
              rw [Nat.add_mul] at this
              exact cell_of_heap hh (by simp only; omega)
            · intro i y hy; exact hsz _ y (drop_take_get hy).1
            · intro i y j z hy hz
              have := hr _ y j z (drop_take_get hy).1 hz
              have e1 : base + off * sz' + (i * sz' + j) = base + ((off + i) * sz' + j) := by rw [Nat.add_mul]; omega
              simp only [e1]; exact this
      · simp at hx
    · simp at hx
  · rename_i ro clip sz' xs
    split at hx
    · rename_i hcond
      obtain ⟨h1, h2⟩ := hcond
      simp only [Option.some.injEq] at hx; subst hx
      cases hv with
      | fv _ _ _ hv =>
      cases hv with
      | sl0 _ _ ad cap hcl => exact ⟨ad, cap, fun _ => undef, by simp, by simp, ⟨by simp, by simp, by simp⟩⟩
      | sl _ _ _ b o len cap us hlen hcap hclip hb hsz hc hr =>
        subst hlen
        have hszz : sz' = sz ∨ xs = [] := by simpa using h2
        rcases hszz with rfl | rfl
        · refine ⟨_, cap, fun k => us (k / sz') (k % sz'), rfl, hcap, ⟨?_, hsz, ?_⟩⟩
          · intro k hk
            refine ⟨_, rfl, ?_⟩
            rw [add_zero' _ rfl]
            have hp : 0 < sz' := by rcases Nat.eq_zero_or_pos sz' with e | e; · subst e; simp at hk
                                    · exact e
            have hi : k / sz' < xs.length := (Nat.div_lt_iff_lt_mul hp).2 hk
            have hok := hsz _ _ (List.getElem?_eq_getElem hi)
            have hj : k % sz' < (cellsOf xs[k / sz']).length := by rw [ok_len hok]; exact Nat.mod_lt _ hp
            have := hc _ _ _ _ (List.getElem?_eq_getElem hi) (List.getElem?_eq_getElem hj)
            rwa [show k / sz' * sz' + k % sz' = k from by rw [Nat.mul_comm]; exact Nat.div_add_mod k sz'] at this
          · intro i y j z hy hz
            have hjl : j < sz' := by rw [← ok_len (hsz _ _ hy)]; exact (List.getElem?_eq_some_iff.1 hz).1
            have e1 : (i * sz' + j) / sz' = i := by rw [Nat.mul_comm, Nat.mul_add_div (by omega), Nat.div_eq_of_lt hjl, Nat.add_zero]
            have e2 : (i * sz' + j) % sz' = j := by rw [Nat.mul_comm, Nat.mul_add_mod, Nat.mod_eq_of_lt hjl]
            simp only [e1, e2]
            have := hr _ y j z hy hz
            cases ro with
            | false => exact this
            | true =>
              simp only [Bool.not_true, Bool.false_or, List.all_eq_true] at h1
              exact this.of_flat (flat_of_flat (h1 y (List.mem_of_getElem? hy)) hz)
        · exact ⟨_, cap, fun _ => undef, rfl, hcap, ⟨by simp, by simp, by simp⟩⟩
    · simp at hx
  · simp at hx

def storesAt (ad : Option Addr) (n : Nat) (vs : List Value) : Sem Unit :=
  match ad with
  | some a => storeCells (a.add n) vs
  | none => pure ()
/-- What an append gives, and in which world. -/
theorem run_append_src {P : Program} {t ty e : TypeId} {i : TypeInfo} {z : Value} (ht : P.underlying t = some (.slice e)) (hi : P.info? e = some i) (hz : i.zero = some z) {Z1 Z2 : Nat → Prop}
    {xs ys : List FV} {ad bd : Option Addr} {g1 g2 : Nat → Value} (h1 : Src Z1 w i.size xs ad g1) (h2 : Src Z2 w i.size ys bd g2) (cap c : Nat) (hcap : xs.length ≤ cap) (hbytes : (xs.length + ys.length) * i.bytes ≤ 140737488355328) (hb0 : i.bytes ≠ 0) :
    (xs.length + ys.length ≤ cap ∧ (Builtin.append_ #[t, t] ty #[.slice ad xs.length cap, .slice bd ys.length c]).run P w =
      ((storesAt ad (xs.length * i.size) (listOf (ys.length * i.size) g2)).run P w).andThen fun _ w' => .ok (.slice ad (xs.length + ys.length) cap) w') ∨
    (cap < xs.length + ys.length ∧ ∃ cap', xs.length + ys.length ≤ cap' ∧ (Builtin.append_ #[t, t] ty #[.slice ad xs.length cap, .slice bd ys.length c]).run P w =
      .ok (.slice (some ⟨w.heap.size, 0, none⟩) (xs.length + ys.length) cap') (w.drew.alloc (.cells ((listOf (xs.length * i.size) g1).toArray ++ (listOf (ys.length * i.size) g2).toArray ++ Builtin.zeroCells z.cells (cap' - (xs.length + ys.length))) e))) := by
  by_cases hr : xs.length + ys.length ≤ cap
  · left
    refine ⟨hr, ?_⟩
    have hf := h2.first (P := P) w (fun _ => rfl) c
    cases ad <;> simp [Builtin.append_, run_underlying ht, sizeOf, typeInfo, hi, Builtin.lenOf, hr, hf, storesAt]
  · right
    refine ⟨by omega, grownCap w (xs.length + ys.length) cap e, grownCap_ge w _ _ _, ?_⟩
    have hf1 := h1.first (P := P) w.drew (fun _ => rfl) cap
    have hf2 := h2.first (P := P) w.drew (fun _ => rfl) c
    have hfit := growslice_fits (need := xs.length + ys.length) (old := cap) (bytes := i.bytes) (by omega) hbytes
    have h48' : ¬ (281474976710656 < Builtin.nextslicecap (xs.length + ys.length) cap * i.bytes) := by omega
    simp [Builtin.append_, run_underlying ht, sizeOf, typeInfo, zeroValue, hi, hz, Builtin.lenOf, hr, hb0, h48', Question.forced, hf1, hf2, newRow, grownCap]
    have e : ∀ (A B : List Value) (Z : Array Value), A.toArray ++ (B.toArray ++ Z) = (A ++ B).toArray ++ Z := by intro A B Z; apply Array.ext'; simp
    rw [e]

/-- The list that is appended to; the block that it lies in, if it is the frame's own. -/
def dstA (σ : St) (sz : Nat) (x : V) (more : Bool) : Option (Option Nat × List FV) :=
  match x with
  | .own s off len => match lk s σ.blk with
    | some (.arr sz' xs) => if sz' = sz ∧ off + len = xs.length then some (some s, xs.drop off) else none
    | _ => none
  | .fv ro (.sl true sz' xs) => if (!ro || xs.all flat) = true ∧ (sz' == sz || xs.isEmpty) = true ∧ (xs.isEmpty || more) = true then some (none, xs) else none
  | _ => none
def dropO (σ : St) : Option Nat → St
  | some s => σ.drop s
  | none => σ
def appA (G : Pg) (σ : St) (d t : Nat) (x y : V) : Option St :=
  match lk t G.tbl with
  | some ⟨_, _, _, .slice e⟩ => match lk e G.tbl with
    | some ti => match srcA σ ti.size y with
      | some ys => match dstA σ ti.size x (!ys.isEmpty) with
        | some (s, xs) => if (xs.length + ys.length) * ti.bytes ≤ 140737488355328 ∧ ti.bytes ≠ 0 then some ((dropO σ s).mk' d (.arr ti.size (xs ++ ys)) (.own d 0 (xs.length + ys.length))) else none
        | none => none
      | none => none
    | none => none
  | _ => none
theorem below_drew_alloc (w : World) (o : Obj) : Below w.heap.size w (w.drew.alloc o) := ((Below.refl _ w).drew).alloc (Nat.le_refl _) o
theorem get_app {α : Type} {l1 l2 : List α} {i : Nat} {x : α} (h : (l1 ++ l2)[i]? = some x) : (i < l1.length ∧ l1[i]? = some x) ∨ (l1.length ≤ i ∧ l2[i - l1.length]? = some x) := by
  by_cases hi : i < l1.length
  · rw [List.getElem?_append_left hi] at h; exact .inl ⟨hi, h⟩
  · rw [List.getElem?_append_right (by omega)] at h; exact .inr ⟨by omega, h⟩
/-- A row of cells that holds two lists, one behind the other. -/
theorem rep_two {Z1 Z2 Z : Nat → Prop} {w2 : World} {sz base : Nat} {xs ys : List FV} {ad bd : Option Addr} {g1 g2 : Nat → Value} (h1 : Src Z1 w sz xs ad g1) (h2 : Src Z2 w sz ys bd g2) (c : Array Value)
    (hz1 : ∀ x v, RepF Z1 w x v → RepF Z w2 x v) (hz2 : ∀ x v, RepF Z2 w x v → RepF Z w2 x v)
    (hc1 : ∀ k, k < xs.length * sz → c.getD (base + k) undef = g1 k) (hc2 : ∀ k, k < ys.length * sz → c.getD (base + (xs.length * sz + k)) undef = g2 k) :
    (∀ (i : Nat) (x : FV), (xs ++ ys)[i]? = some x → cellsOK sz x = true) ∧
    ∀ (i : Nat) (x : FV) (j : Nat) (y : FV), (xs ++ ys)[i]? = some x → (cellsOf x)[j]? = some y → RepF Z w2 y (c.getD (base + (i * sz + j)) undef) := by
  refine ⟨fun i x hi => ?_, fun i x j y hi hj => ?_⟩
  · rcases get_app hi with ⟨_, h⟩ | ⟨_, h⟩
    · exact h1.ok _ _ h
    · exact h2.ok _ _ h
  · rcases get_app hi with ⟨hlt, h⟩ | ⟨hge, h⟩
    · have hjl : j < sz := by rw [← ok_len (h1.ok _ _ h)]; exact (List.getElem?_eq_some_iff.1 hj).1
      have hk : i * sz + j < xs.length * sz := by
        have : (i + 1) * sz ≤ xs.length * sz := Nat.mul_le_mul_right _ hlt
        rw [Nat.add_mul] at this; omega
      rw [hc1 _ hk]
      exact hz1 _ _ (h1.rep _ _ _ _ h hj)
    · have hjl : j < sz := by rw [← ok_len (h2.ok _ _ h)]; exact (List.getElem?_eq_some_iff.1 hj).1
      have hil := (List.getElem?_eq_some_iff.1 h).1
      have hk : (i - xs.length) * sz + j < ys.length * sz := by
        have : (i - xs.length + 1) * sz ≤ ys.length * sz := Nat.mul_le_mul_right _ hil
        rw [Nat.add_mul] at this; omega
      have e : i * sz + j = xs.length * sz + ((i - xs.length) * sz + j) := by
        have : i * sz = (xs.length + (i - xs.length)) * sz := by congr 1; omega
        rw [this, Nat.add_mul]; omega
      rw [e, hc2 _ hk]
      exact hz2 _ _ (h2.rep _ _ _ _ h hj)
theorem getD_two (l1 l2 : List Value) (r : Array Value) (k : Nat) : (k < l1.length → (l1.toArray ++ l2.toArray ++ r).getD k undef = l1.getD k undef) ∧ (k < l2.length → (l1.toArray ++ l2.toArray ++ r).getD (l1.length + k) undef = l2.getD k undef) := by
  refine ⟨fun h => ?_, fun h => ?_⟩
  · have h' : k < l1.length + l2.length := by omega
    simp [Array.getD_eq_getD_getElem?, Array.getElem?_append, h, h']
  · simp [Array.getD_eq_getD_getElem?, Array.getElem?_append, h]
theorem blk_dropO {s : Option Nat} {t : Nat} (h : lk t (dropO σ s).blk ≠ none) : s ≠ some t ∧ lk t σ.blk ≠ none := by
  cases s with
  | none => exact ⟨by simp, h⟩
  | some s =>
    simp only [dropO, St.drop, lk_rm] at h
    by_cases e : t = s
    · simp [e] at h
    · simp only [e, if_false] at h
      exact ⟨fun x => e (by simpa using x.symm), h⟩
theorem Sim.dropO (h : Sim C σ a w μ Fz Fy) (s : Option Nat) : Sim C (dropO σ s) a w μ Fz Fy := by
  cases s with
  | none => exact h
  | some s => exact h.drop s
theorem dstA_sound (h : Sim C σ a w μ Fz Fy) {sz : Nat} {x : V} {more : Bool} {s : Option Nat} {xs : List FV} (hx : dstA σ sz x more = some (s, xs)) {v : Value} (hv : RepV μ (shs σ) Fz Fy w x v) :
    ∃ ad cap g, v = .slice ad xs.length cap ∧ xs.length ≤ cap ∧ Src Fz w sz xs ad g ∧
      ((cap = xs.length ∧ (xs = [] ∨ more = true)) ∨ ∃ (s' b base0 base : Nat) (c : Array Value) (e : TypeId), s = some s' ∧ lk s' σ.blk ≠ none ∧ μ s' = some (b, base0) ∧ ad = some ⟨b, base, none⟩ ∧ w.heap[b]? = some (.cells c e (0, 0)) ∧ base + cap * sz ≤ c.size) := by
  unfold dstA at hx
  split at hx
  · rename_i s' off len
    split at hx
    · rename_i sz' xs' hb
      split at hx
      · rename_i hcond
        obtain ⟨rfl, hlen⟩ := hcond
        simp only [Option.some.injEq, Prod.mk.injEq] at hx
        obtain ⟨rfl, rfl⟩ := hx
        have hsrc : srcA σ sz' (.own s' off len) = some (xs'.drop off) := by
          simp only [srcA, hb, if_true]
          congr 1
          exact List.take_of_length_le (by simp; omega)
        obtain ⟨ad, c, g, hve, hc, hs⟩ := srcA_sound h hsrc hv
        refine ⟨ad, c, g, hve, hc, hs, ?_⟩
        subst hve
        cases hv with
        | ownx _ _ _ _ hx => simp [shs, hb] at hx
        | own _ _ _ ad cap sz' n' hs' hn hcap hm =>
        simp only [shs, hb, Option.map_some, shp, Option.some.injEq, Prod.mk.injEq] at hs'
        obtain ⟨rfl, rfl⟩ := hs'
        rcases hm with hm | ⟨b, base, hm, rfl, cc, e, hcc, hroom⟩
        · left
          have : (xs'.drop off).length = 0 := by omega
          exact ⟨by omega, .inl (List.eq_nil_of_length_eq_zero this)⟩
        · right
          refine ⟨s', b, base, base + off * sz', cc, e, rfl, by simp [hb], hm, rfl, hcc, ?_⟩
          rw [Nat.add_mul] at hroom; omega
      · simp at hx
    · simp at hx
  · rename_i ro sz' xs'
    split at hx
    · rename_i hcond
      obtain ⟨h1, h2, h3⟩ := hcond
      simp only [Option.some.injEq, Prod.mk.injEq] at hx
      obtain ⟨rfl, rfl⟩ := hx
      have hsrc : srcA σ sz (.fv ro (.sl true sz' xs')) = some xs' := by simp only [srcA]; rw [if_pos ⟨h1, h2⟩]
      obtain ⟨ad, c, g, hve, hc, hs⟩ := srcA_sound h hsrc hv
      refine ⟨ad, c, g, hve, hc, hs, .inl ⟨?_, ?_⟩⟩
      · subst hve
        cases hv with
        | fv _ _ _ hv =>
        cases hv with
        | sl0 _ _ _ _ hcl => exact hcl rfl
        | sl _ _ _ b o len cap us hlen hcap hclip => exact hclip rfl
      · simpa using h3
    · simp at hx
  · simp at hx
theorem appA_sound (hT : TOk G) (h : Sim C σ a w μ Fz Fy) {d t : Nat} (hd : d < C.N) {x y : V} {σ' : St} (hs : appA G σ d t x y = some σ') {v u : Value} (hv : RepV μ (shs σ) Fz Fy w x v) (hu : RepV μ (shs σ) Fz Fy w y u) (ty : TypeId) :
    ∃ r w' μ', (Builtin.append_ #[t, t] ty #[v, u]).run G.P w = .ok r w' ∧ Sim C σ' (a.put (some d) r) w' μ' Fz Fy := by
  unfold appA at hs
  split at hs
  · rename_i s1 s2 s3 e heq
    obtain ⟨dd, hd', hk⟩ := (hT t _ heq).under
    simp only [KindIs] at hk; subst hk
    split at hs
    · rename_i ti hti
      split at hs
      · rename_i ys hys
        split at hs
        · rename_i s xs hxs
          split at hs
          · rename_i hb
            obtain ⟨hb1, hb2⟩ := hb
            simp only [Option.some.injEq] at hs; subst hs
            obtain ⟨i, hi, his, hib, z, hz, hzl⟩ := (hT e ti hti).info
            have hzs : z.cells.size = ti.size := by rw [← Array.length_toList, hzl, List.length_map, (hT e ti hti).zsize]
            obtain ⟨bd, c, g2, rfl, hc2, hsrc2⟩ := srcA_sound h hys hu
            obtain ⟨ad, cap, g1, rfl, hcap, hsrc1, hwhere⟩ := dstA_sound h hxs hv
            have hdrop := h.dropO s
            rw [← his] at hsrc1 hsrc2
            rcases run_append_src (P := G.P) (ty := ty) hd' hi hz hsrc1 hsrc2 cap c hcap (by rw [hib]; exact hb1) (by rw [hib]; exact hb2) with ⟨hle, hrun⟩ | ⟨hgt, cap', hcap', hrun⟩
            · -- there is room
              rcases hwhere with ⟨hce, hor⟩ | ⟨s', b, base0, base, cc, e', rfl, hp, hm, rfl, hcc, hroom⟩
              · have hy0 : ys = [] := List.eq_nil_of_length_eq_zero (by omega)
                subst hy0
                have hx0 : xs = [] := by
                  rcases hor with h | h
                  · exact h
                  · simp at h
                subst hx0
                have hrun' : (Builtin.append_ #[t, t] ty #[.slice ad 0 cap, .slice bd 0 c]).run G.P w = .ok (.slice ad 0 cap) w := by
                  have : (storesAt ad (([] : List FV).length * i.size) (listOf (([] : List FV).length * i.size) g2)).run G.P w = .ok () w := by
                    cases ad <;> simp [storesAt, listOf, storeCells]
                  rw [this] at hrun
                  simpa using hrun
                refine ⟨_, w, setMu μ d none, hrun', hdrop.made hd (Stays.of_below hdrop (Below.refl _ w)) none _ _ _ (by simp) ?_ ?_⟩
                · exact .nil _
                · refine .own d 0 0 ad cap ti.size 0 ?_ (by simp) (by omega) (.inl ?_)
                  · rw [shs_mk]; simp [shp]
                  · simpa using hce
              · -- into the block's own room
                have hlive := h.live s' hp b base0 hm
                have hone : ∀ u ∈ listOf (ys.length * i.size) g2, u.oneCell' = true := by
                  intro u hu
                  obtain ⟨k, hk, rfl⟩ := List.mem_map.1 hu
                  exact hsrc2.one (List.mem_range.1 hk)
                have hlen : (listOf (ys.length * i.size) g2).length = ys.length * i.size := by simp [listOf]
                have hfit : base + xs.length * i.size + 0 + (listOf (ys.length * i.size) g2).length ≤ cc.size := by
                  rw [hlen]
                  have : (xs.length + ys.length) * i.size ≤ cap * i.size := Nat.mul_le_mul_right _ hle
                  rw [Nat.add_mul] at this
                  rw [his] at this ⊢
                  omega
                have hst := run_storeCells_at G.P b (base + xs.length * i.size) e' (listOf (ys.length * i.size) g2) 0 cc w hcc hfit hone
                simp only [Nat.add_zero] at hst
                have hsa : storesAt (some ⟨b, base, none⟩) (xs.length * i.size) (listOf (ys.length * i.size) g2) = storeCells ⟨b, base + xs.length * i.size, none⟩ (listOf (ys.length * i.size) g2) := by
                  show storeCells ((⟨b, base, none⟩ : Addr).add _) _ = _
                  rw [add_zero' ⟨b, base, none⟩ rfl]
                rw [hsa, hst, Result.andThen_ok] at hrun
                generalize hnew : (cc.toList.take (base + xs.length * i.size) ++ listOf (ys.length * i.size) g2 ++ cc.toList.drop (base + xs.length * i.size + (listOf (ys.length * i.size) g2).length)).toArray = nc at hrun
                have hncs : nc.size = cc.size := by rw [← hnew]; simp; omega
                have hheap : (w.setRow b nc).heap[b]? = some (.cells nc e' (0, 0)) := setRow_heap w b cc nc e' (0, 0) hcc
                have hother : ∀ r, r ≠ b → (w.setRow b nc).heap[r]? = w.heap[r]? := fun r hr => setRow_other w b r nc hr
                have hstays : Stays C (dropO σ (some s')) w (w.setRow b nc) μ Fy := by
                  refine { keeps := fun r x e fr hx => ?_, fixed := fun r hr => hother r (fun e => hlive.2.2 (e ▸ hr)), own := fun t ht r base hr => hother r (fun e => ?_), below := BelowX.setRow h.below hlive.1 hcc nc hncs, size := by simp, rest := fun r hr => hother r (fun e => (h.fm r hr).2.2 s' hp base0 (e ▸ hm)) }
                  · by_cases er : r = b
                    · subst er
                      rw [hcc] at hx
                      simp only [Option.some.injEq, Obj.cells.injEq] at hx
                      obtain ⟨rfl, rfl, rfl⟩ := hx
                      exact ⟨nc, hheap, hncs⟩
                    · exact ⟨x, (hother r er).trans hx, rfl⟩
                  · obtain ⟨k1, k2⟩ := blk_dropO ht
                    exact h.inj t s' k2 hp (fun e => k1 (by rw [e])) r base b base0 hr hm e
                have hg1 : ∀ k, k < xs.length * i.size → nc.getD (base + k) undef = g1 k := by
                  intro k hk
                  obtain ⟨ad', had, hcell⟩ := hsrc1.cell k hk
                  simp only [Option.some.injEq] at had; subst had
                  rw [add_zero' _ rfl] at hcell
                  simp only [World.cell?, hcc] at hcell
                  have hlt : base + k < cc.size := by
                    rw [his] at hk
                    have : xs.length * ti.size ≤ cap * ti.size := Nat.mul_le_mul_right _ hcap
                    omega
                  have e1 : nc[base + k]? = cc[base + k]? := by
                    rw [← hnew]
                    simp only [List.getElem?_toArray, List.append_assoc]
                    rw [List.getElem?_append_left (by simp; omega), List.getElem?_take_of_lt (by omega)]
                    simp
                  simp only [Option.isSome_none, Bool.false_eq_true, if_false] at hcell
                  simp [Array.getD_eq_getD_getElem?, e1, hcell]
                have hg2 : ∀ k, k < ys.length * i.size → nc.getD (base + (xs.length * i.size + k)) undef = g2 k := by
                  intro k hk
                  have hlt : base + xs.length * i.size ≤ cc.size := by omega
                  have e1 : nc[base + (xs.length * i.size + k)]? = some (g2 k) := by
                    rw [← hnew]
                    simp only [List.getElem?_toArray, List.append_assoc]
                    rw [List.getElem?_append_right (by simp; omega), List.getElem?_append_left (by simp [listOf]; omega)]
                    have : base + (xs.length * i.size + k) - (cc.toList.take (base + xs.length * i.size)).length = k := by simp; omega
                    rw [this]
                    exact getD_listOf g2 hk
                  simp [Array.getD_eq_getD_getElem?, e1]
                have hzmono : ∀ x v, RepF Fz w x v → RepF Fz (w.setRow b nc) x v := fun x v hx => hx.mono (fun _ x => x) (fun r hr => hstays.fixed r (h.zy r hr))
                have htwo := rep_two (Z := Fz) (w2 := w.setRow b nc) hsrc1 hsrc2 nc hzmono hzmono hg1 hg2
                rw [his] at htwo
                refine ⟨_, _, setMu μ d (some (b, base)), hrun, hdrop.made hd hstays (some (b, base)) _ _ _ ?_ ?_ ?_⟩
                · intro r base' hr
                  simp only [Option.some.injEq, Prod.mk.injEq] at hr
                  obtain ⟨rfl, rfl⟩ := hr
                  refine ⟨hlive.1, by simpa using hlive.2.1, ⟨hlive.2.2, fun hM => (h.fm b hM).2.2 s' hp base0 hm⟩, fun t ht hpt r' base'' hr' e => ?_⟩
                  obtain ⟨k1, k2⟩ := blk_dropO hpt
                  exact h.inj t s' k2 hp (fun e => k1 (by rw [e])) r' base'' _ base0 hr' hm e
                · refine .arr _ _ b base nc e' (by simp [setMu]) hheap ?_ htwo.1 htwo.2
                  rw [hncs, List.length_append]
                  have : (xs.length + ys.length) * ti.size ≤ cap * ti.size := Nat.mul_le_mul_right _ hle
                  omega
                · refine .own d 0 _ _ cap ti.size (xs.length + ys.length) ?_ (by simp) hle (.inr ⟨b, base, by simp [setMu], by simp, nc, e', hheap, ?_⟩)
                  · rw [shs_mk]; simp [shp]
                  · rw [hncs, Nat.zero_add]; exact hroom
            · -- a new row
              have hB : Below w.heap.size w (w.drew.alloc (.cells ((listOf (xs.length * i.size) g1).toArray ++ (listOf (ys.length * i.size) g2).toArray ++ Builtin.zeroCells z.cells (cap' - (xs.length + ys.length))) e)) := below_drew_alloc w _
              have hl1 : (listOf (xs.length * i.size) g1).length = xs.length * i.size := by simp [listOf]
              have hl2 : (listOf (ys.length * i.size) g2).length = ys.length * i.size := by simp [listOf]
              generalize hcc : (listOf (xs.length * i.size) g1).toArray ++ (listOf (ys.length * i.size) g2).toArray ++ Builtin.zeroCells z.cells (cap' - (xs.length + ys.length)) = cc at hrun hB
              have hccs : cc.size = cap' * i.size := by
                rw [← hcc]
                simp only [Array.size_append, List.size_toArray, hl1, hl2, size_zeroCells, hzs, ← his, ← Nat.add_mul]
                congr 1; omega
              have hheap : (w.drew.alloc (.cells cc e)).heap[w.heap.size]? = some (.cells cc e (0, 0)) := heap_new w.drew _
              have hg1 : ∀ k, k < xs.length * i.size → cc.getD (0 + k) undef = g1 k := by
                intro k hk
                rw [← hcc, Nat.zero_add, (getD_two _ _ _ k).1 (by rw [hl1]; exact hk)]
                rw [List.getD_eq_getElem?_getD, getD_listOf g1 hk]; rfl
              have hg2 : ∀ k, k < ys.length * i.size → cc.getD (0 + (xs.length * i.size + k)) undef = g2 k := by
                intro k hk
                have := (getD_two (listOf (xs.length * i.size) g1) (listOf (ys.length * i.size) g2) (Builtin.zeroCells z.cells (cap' - (xs.length + ys.length))) k).2 (by rw [hl2]; exact hk)
                rw [hl1] at this
                rw [← hcc, Nat.zero_add, this, List.getD_eq_getElem?_getD, getD_listOf g2 hk]; rfl
              have hzmono : ∀ x v, RepF Fz w x v → RepF Fz (w.drew.alloc (.cells cc e)) x v := fun x v hx => hx.mono (fun _ x => x) (fun r hr => hB.block r (h.yl r (h.zy r hr)))
              have htwo := rep_two (Z := Fz) (w2 := w.drew.alloc (.cells cc e)) hsrc1 hsrc2 cc hzmono hzmono hg1 hg2
              rw [his] at htwo hccs
              refine ⟨_, _, setMu μ d (some (w.heap.size, 0)), hrun, hdrop.made hd (Stays.of_below hdrop hB) (some (w.heap.size, 0)) _ _ _ ?_ ?_ ?_⟩
              · intro r base hr
                simp only [Option.some.injEq, Prod.mk.injEq] at hr
                obtain ⟨rfl, rfl⟩ := hr
                refine ⟨.inl h.big, Nat.lt_of_lt_of_le (Nat.lt_succ_self _) (by show _ ≤ (w.heap.push _).size; simp), ⟨fun hy => absurd (h.yl _ hy) (by omega), fun hy => absurd (h.fm _ hy).1 (by omega)⟩, fun t ht hp r' base' hm' => ?_⟩
                have := (hdrop.live t hp r' base' hm').2.1
                omega
              · refine .arr _ _ w.heap.size 0 cc e (by simp [setMu]) hheap ?_ htwo.1 htwo.2
                rw [hccs, Nat.zero_add, List.length_append]
                exact Nat.mul_le_mul_right _ hcap'
              · refine .own d 0 _ _ cap' ti.size (xs.length + ys.length) ?_ (by simp) hcap' (.inr ⟨w.heap.size, 0, by simp [setMu], by simp, cc, e, hheap, ?_⟩)
                · rw [shs_mk]; simp [shp]
                · rw [hccs]; simp
          · simp at hs
        · simp at hs
      · simp at hs
    · simp at hs
  · simp at hs
end
end Go.Proofs.Ytoafhoihigfllaa.E
