/-
  The engine, part 2b: regions that draw their order: operations that each add a value of their own, in whatever order, and a tail of which the order is forced. Conditions: 'mixedOrders'; it is stated of any program and table of its types.
-/
import Derived.Test.YtoafhoihigfllaaFa
namespace Go.Proofs.Ytoafhoihigfllaa.E
open Go Go.RowKit
set_option linter.unusedVariables false
set_option linter.unusedSimpArgs false

/-! ### What an operation adds -/
def maker : Op → Bool
  | .alloc _ => true
  | .buildSlice _ _ _ => true
  | .makeSlice _ _ _ => true
  | .call ⟨.value _, _, _⟩ => true
  | .call ⟨.builtin .append, _, _⟩ => true
  | _ => false
def addRs (d : Nat) : List TV → Option (V × Option Blk)
  | [.us sz xs] => some (.own d 0 xs.length, some (.arr sz xs))
  | [.fv x] => some (.fv false x, none)
  | _ => none
def addBs (G : Pg) (σ : St) (d t len : Nat) (ps : List (Nat × V)) : Option (V × Option Blk) :=
  match lk t G.tbl with
  | some ⟨_, _, _, .slice e⟩ => match lk e G.tbl with
    | some ti => match elemsA σ (ps.map (·.2)) with
      | some ([], ys) => if ps.map (·.1) = List.range len ∧ ys.all (cellsOK ti.size) = true ∧ len * ti.size ≤ 16777216 then some (.own d 0 len, some (.arr ti.size ys)) else none
      | _ => none
    | none => none
  | _ => none
def addMk (G : Pg) (d t : Nat) (l c : Int) : Option (V × Option Blk) :=
  match lk t G.tbl with
  | some ⟨_, _, _, .slice e⟩ => match lk e G.tbl with
    | some ti => if 0 ≤ l ∧ l ≤ c ∧ ti.bytes * c ≤ 281474976710656 ∧ c ≤ 9223372036854775807 ∧ ti.size ≠ 0 then some (.own d 0 l.toNat, some (.arr ti.size (List.replicate l.toNat (elemOf ti.zero)))) else none
    | none => none
  | _ => none
def addCall (G : Pg) (σ : St) (d : Nat) (f : V) (args : List V) : Option (V × Option Blk) :=
  match fnOf f with
  | some (k, first, captured) => match argsA σ (first ++ args ++ captured) with
    | some xs => match G.ctx k xs with
      | some res => addRs d res
      | none => none
    | none => none
  | none => none
def addAsg (G : Pg) (keep : List Nat) (d ty : Nat) (v : V) : Option (V × Option Blk) :=
  match v with
  | .own s off len => if (s == d || keep.contains s) = true then some (.own s off len, none) else none
  | .fv ro (.sl true sz []) => match lk ty G.tbl with
    | some ⟨_, _, _, .slice _⟩ => none
    | _ => some (.fv ro (.sl true sz []), none)
  | v => some (v, none)
def addApp (G : Pg) (σ : St) (d t : Nat) (x y : V) : Option (V × Option Blk) :=
  match lk t G.tbl with
  | some ⟨_, _, _, .slice e⟩ => match lk e G.tbl with
    | some ti => match srcA σ ti.size y with
      | some ys => match dstA σ ti.size x (!ys.isEmpty) with
        | some (none, xs) => if (xs.length + ys.length) * ti.bytes ≤ 140737488355328 ∧ ti.bytes ≠ 0 then some (.own d 0 (xs.length + ys.length), some (.arr ti.size (xs ++ ys))) else none
        | _ => none
      | none => none
    | none => none
  | _ => none
def addBs0 (G : Pg) (t len : Nat) : Option (V × Option Blk) :=
  match lk t G.tbl with
  | some ⟨_, _, _, .slice e⟩ => match lk e G.tbl with
    | some ti => if len = 0 then some (.fv false (.sl true ti.size []), none) else none
    | none => none
  | _ => none
def addA (G : Pg) (keep : List Nat) (σ : St) (d ty : Nat) : Op → Option (V × Option Blk)
  | .assign x => match opd σ x with
    | some v => addAsg G keep d ty v
    | none => none
  | .box _ _ => none
  | .makeMap _ _ => none
  | .lookup _ _ _ _ => none
  | .alloc t => match lk t G.tbl with
    | some ti => some (.ptr d 0, some (.box (ti.zero.map (.fv false))))
    | none => none
  | .buildSlice t len ps => match parts σ ps.toList with
    | some [] => addBs0 G t len
    | some ps => addBs G σ d t len ps
    | none => none
  | .makeSlice t l c => match opd σ l, opd σ c with
    | some l, some c => match intN l, intN c with
      | some l, some c => addMk G d t l c
      | _, _ => none
    | _, _ => none
  | .call ⟨.builtin .append, args, ats⟩ => match args.toList, ats.toList with
    | [x, y], [t, t'] => if t = t' then match opd σ x, opd σ y with
        | some x, some y => addApp G σ d t x y
        | _, _ => none
      else none
    | _, _ => none
  | .call ⟨.value f, args, _⟩ => match opd σ f, opds σ args.toList with
    | some f, some args => addCall G σ d f args
    | _, _ => none
  | op => match popA G σ op with
    | some v => some (v, none)
    | none => none
theorem addA_maker {G : Pg} {keep : List Nat} {σ : St} {d ty : Nat} {op : Op} {v : V} {ob : Option Blk} (h : addA G keep σ d ty op = some (v, ob)) (hm : maker op = false) : ob = none := by
  unfold addA at h
  split at h
  · split at h
    · unfold addAsg at h
      split at h
      · split at h
        · simp only [Option.some.injEq, Prod.mk.injEq] at h; exact h.2.symm
        · cases h
      · split at h
        · cases h
        · simp only [Option.some.injEq, Prod.mk.injEq] at h; exact h.2.symm
      · simp only [Option.some.injEq, Prod.mk.injEq] at h; exact h.2.symm
    · cases h
  · cases h
  · cases h
  · cases h
  · simp [maker] at hm
  · simp [maker] at hm
  · simp [maker] at hm
  · simp [maker] at hm
  · simp [maker] at hm
  · split at h
    · simp only [Option.some.injEq, Prod.mk.injEq] at h; exact h.2.symm
    · cases h
theorem killV_id {d : Nat} {v : V} (h : ment 5 d v = false) : killV [d] v = v := by simp [killV, h]
structure Fresh (d : Nat) (τ : St) : Prop where
  env : ∀ k u, lk k τ.env = some u → ment 5 d u = false
  box : ∀ s cells, lk s τ.blk = some (.box cells) → ∀ y ∈ cells, ment 5 d y = false
  none : lk d τ.blk = none
theorem kill_env {d : Nat} {τ : St} (h : Fresh d τ) (k : Nat) : lk k ((τ.drop d).kill [d]).env = lk k τ.env := by
  simp only [St.kill, St.drop, lk_map]
  cases hk : lk k τ.env with
  | none => rfl
  | some u => simp [killV_id (h.env k u hk)]
theorem kill_blk {d : Nat} {τ : St} (h : Fresh d τ) (s : Nat) : lk s ((τ.drop d).kill [d]).blk = lk s τ.blk := by
  simp only [St.kill, St.drop, lk_map, lk_rm]
  by_cases e : s = d
  · subst e; simp [h.none]
  · simp only [e, if_false]
    cases hk : lk s τ.blk with
    | none => rfl
    | some b =>
      cases b with
      | box cells =>
        simp only [Option.map_some, killB]
        congr 2
        exact (List.map_congr_left fun y hy => killV_id (h.box s cells hk y hy)).trans (List.map_id' cells)
      | arr => rfl
      | mp => rfl
theorem mk'_env {d : Nat} {τ : St} (h : Fresh d τ) (b : Blk) (v : V) (k : Nat) : lk k (τ.mk' d b v).env = if k = d then some v else lk k τ.env := by
  simp only [St.mk', lk_put, kill_env h]
theorem mk'_blk {d : Nat} {τ : St} (h : Fresh d τ) (b : Blk) (v : V) (s : Nat) : lk s (τ.mk' d b v).blk = if s = d then some b else lk s τ.blk := by
  simp only [St.mk', lk_put, kill_blk h]

section
variable {π τ : St} {G : Pg}
/-- What the second state is behind an operation that adds. -/
structure Added (d : Nat) (v : V) (ob : Option Blk) (τ τ' : St) : Prop where
  env : ∀ k, lk k τ'.env = if k = d then some v else lk k τ.env
  blk : ∀ s, lk s τ'.blk = if s = d then ob.or (lk s τ.blk) else lk s τ.blk
  tr : τ'.tr = τ.tr
theorem added_mk {d : Nat} (h : Fresh d τ) (b : Blk) (v : V) : Added d v (some b) τ (τ.mk' d b v) :=
  ⟨mk'_env h b v, fun s => by rw [mk'_blk h]; simp, rfl⟩
theorem added_put (d : Nat) (v : V) (τ : St) : Added d v none τ { τ with env := put d v τ.env } :=
  ⟨fun k => lk_put d k v τ.env, fun s => by simp, rfl⟩
theorem addCall_step (H : Le π τ) {d : Nat} {f : V} {args : List V} {v : V} {ob : Option Blk} (h : addCall G π d f args = some (v, ob)) (hf : ob ≠ none → Fresh d τ) :
    ∃ τ', callX G τ d f args = some τ' ∧ Added d v ob τ τ' := by
  suffices h' : ∃ τ', callA G τ d f args = some τ' ∧ Added d v ob τ τ' by
    obtain ⟨τ', h1, h2⟩ := h'
    exact ⟨τ', by simp only [callX, h1], h2⟩
  unfold addCall at h
  unfold callA
  split at h
  · rename_i k first captured e
    (try simp only [e])
    split at h
    · rename_i xs e1
      simp only [argsA_mono H e1]
      split at h
      · rename_i res e2
        (try simp only [e2])
        unfold addRs at h
        split at h
        · rename_i sz ys
          simp only [Option.some.injEq, Prod.mk.injEq] at h
          obtain ⟨rfl, rfl⟩ := h
          have hn : nm d true 0 = d := by simp [nm]
          refine ⟨_, rfl, ?_⟩
          simp only [List.length_singleton, BEq.rfl, addRes, hn, packV]
          exact added_mk (hf (by simp)) (.arr sz ys) (.own d 0 ys.length)
        · simp only [Option.some.injEq, Prod.mk.injEq] at h
          obtain ⟨rfl, rfl⟩ := h
          refine ⟨_, rfl, ?_⟩
          simp only [List.length_singleton, BEq.rfl, addRes, packV]
          exact added_put d _ τ
        · simp at h
      · simp at h
    · simp at h
  · simp at h
theorem srcA_mono (H : Le π τ) {sz : Nat} {x : V} {ys : List FV} (h : srcA π sz x = some ys) : srcA τ sz x = some ys := by
  unfold srcA at h ⊢
  split at h
  · split at h
    · rename_i e; simp only [H.2 _ _ e]; exact h
    · cases h
  · exact h
  · cases h
theorem dstA_none {sz : Nat} {x : V} {more : Bool} {xs : List FV} (h : dstA π sz x more = some (none, xs)) : dstA τ sz x more = some (none, xs) := by
  unfold dstA at h ⊢
  split at h
  · split at h
    · split at h
      · simp at h
      · cases h
    · cases h
  · exact h
  · cases h
theorem addA_step (H : Le π τ) {keep : List Nat} {N d : Nat} {o : Oper} (hd : o.dst = some d) (hN : d < N) {v : V} {ob : Option Blk} (h : addA G keep π d o.type o.op = some (v, ob)) (hf : ob ≠ none → Fresh d τ) :
    ∃ τ', stepA G keep N τ o = some τ' ∧ Added d v ob τ τ' := by
  unfold addA at h
  unfold stepA
  simp only [hd, hN, if_true]
  split at h
  · rename_i x e
    simp only [e]
    split at h
    · rename_i v' hv
      simp only [opd_mono H hv]
      unfold addAsg at h
      unfold asgA
      split at h
      · rename_i s off len
        split at h
        · rename_i hc
          simp only [Option.some.injEq, Prod.mk.injEq] at h
          obtain ⟨rfl, rfl⟩ := h
          simp only [if_pos hc]
          exact ⟨_, rfl, added_put d _ τ⟩
        · cases h
      · split at h
        · cases h
        · rename_i hne
          simp only [Option.some.injEq, Prod.mk.injEq] at h
          obtain ⟨rfl, rfl⟩ := h
          refine ⟨_, ?_, added_put d _ τ⟩
          simp only
      · rename_i n1 n2
        simp only [Option.some.injEq, Prod.mk.injEq] at h
        obtain ⟨rfl, rfl⟩ := h
        refine ⟨_, ?_, added_put d _ τ⟩
        split
        · exact absurd rfl (n1 _ _ _)
        · exact absurd rfl (n2 _ _)
        · rfl
    · cases h
  · cases h
  · cases h
  · cases h
  · rename_i e
    simp only [e]
    split at h
    · rename_i ti hti
      simp only [Option.some.injEq, Prod.mk.injEq] at h
      obtain ⟨rfl, rfl⟩ := h
      exact ⟨_, by simp only [allocA, hti], added_mk (hf (by simp)) _ _⟩
    · simp at h
  · rename_i e
    simp only [e]
    split at h
    · rename_i hps
      simp only [parts_mono H hps]
      unfold addBs0 at h
      unfold bs0A
      split at h
      · rename_i e0; (try simp only [e0])
        split at h
        · rename_i ti e1; (try simp only [e1])
          split at h
          · rename_i hc
            simp only [Option.some.injEq, Prod.mk.injEq] at h
            obtain ⟨rfl, rfl⟩ := h
            rw [if_pos hc]
            exact ⟨_, rfl, added_put d _ τ⟩
          · cases h
        · cases h
      · cases h
    · rename_i ps hne hps
      simp only [parts_mono H hps]
      unfold addBs at h
      unfold bsA
      split at h
      · rename_i e0; (try simp only [e0])
        split at h
        · rename_i ti e1; (try simp only [e1])
          split at h
          · rename_i ys e2
            simp only [elemsA_mono H e2]
            split at h
            · rename_i hc
              simp only [Option.some.injEq, Prod.mk.injEq] at h
              obtain ⟨rfl, rfl⟩ := h
              simp only [if_pos hc]
              exact ⟨_, rfl, added_mk (hf (by simp)) _ _⟩
            · simp at h
          · simp at h
        · simp at h
      · simp at h
    · simp at h
  · rename_i e
    simp only [e]
    split at h
    · rename_i h1 h2
      simp only [opd_mono H h1, opd_mono H h2]
      split at h
      · rename_i h3 h4
        (try simp only [h3, h4])
        unfold addMk at h
        unfold mkA
        split at h
        · rename_i e0; (try simp only [e0])
          split at h
          · rename_i ti e1; (try simp only [e1])
            split at h
            · rename_i hc
              simp only [Option.some.injEq, Prod.mk.injEq] at h
              obtain ⟨rfl, rfl⟩ := h
              rw [if_pos hc]
              exact ⟨_, rfl, added_mk (hf (by simp)) _ _⟩
            · simp at h
          · simp at h
        · simp at h
      · simp at h
    · simp at h
  · rename_i args ats e
    simp only [e]
    split at h
    · rename_i x y t t' e1 e2
      simp only [e1, e2]
      split at h
      · rename_i htt
        simp only [if_pos htt]
        split at h
        · rename_i xv yy hx hy
          simp only [opd_mono H hx, opd_mono H hy]
          unfold addApp at h
          unfold appA
          split at h
          · rename_i e3; (try simp only [e3])
            split at h
            · rename_i ti e4; (try simp only [e4])
              split at h
              · rename_i ys hys
                simp only [srcA_mono H hys]
                split at h
                · rename_i xs hxs
                  simp only [dstA_none hxs]
                  split at h
                  · rename_i hc
                    simp only [Option.some.injEq, Prod.mk.injEq] at h
                    obtain ⟨rfl, rfl⟩ := h
                    simp only [if_pos hc]
                    exact ⟨_, rfl, added_mk (hf (by simp)) _ _⟩
                  · cases h
                · cases h
              · cases h
            · cases h
          · cases h
        · cases h
      · cases h
    · cases h
  · rename_i e
    simp only [e]
    split at h
    · rename_i h1 h2
      simp only [opd_mono H h1, opds_mono H h2]
      exact addCall_step H h hf
    · simp at h
  · rename_i n1 n2 n3 n4 n5 n6 n7 n8 n9
    split at h
    · rename_i u hp
      simp only [Option.some.injEq, Prod.mk.injEq] at h
      obtain ⟨rfl, rfl⟩ := h
      split
      · rename_i e; exact absurd e (n1 _)
      · rename_i e; exact absurd e (n5 _)
      · rename_i e; exact absurd e (n2 _ _)
      · rename_i e; exact absurd e (n6 _ _ _)
      · rename_i e; exact absurd e (n3 _ _)
      · rename_i e; exact absurd e (n4 _ _ _ _)
      · rename_i e; exact absurd e (n7 _ _ _)
      · rename_i e; exact absurd e (n8 _ _)
      · rename_i e; exact absurd e (n9 _ _ _)
      · simp only [popA_mono H hp]
        exact ⟨_, rfl, added_put d _ τ⟩
    · simp at h
end
end Go.Proofs.Ytoafhoihigfllaa.E
