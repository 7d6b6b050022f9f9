/-
  The engine, part n: assignments, the step of each operation, and its law. Conditions: none; it is stated of any program and table of its types.
-/
import Derived.Test.YtoafhoihigfllaaEt
namespace Go.Proofs.Ytoafhoihigfllaa.E
open Go Go.RowKit
set_option linter.unusedVariables false

/-! ### A block gets another name -/
def renV (s k : Nat) : Nat → V → V
  | 0, _ => .top
  | n + 1, v => match v with
    | .own t o l => .own (if t = s then k else t) o l
    | .ptr t o => .ptr (if t = s then k else t) o
    | .pel t i j => .pel (if t = s then k else t) i j
    | .map t => .map (if t = s then k else t)
    | .agg cs => .agg (cs.map (renV s k n))
    | .tup cs => .tup (cs.map (renV s k n))
    | .fn f a b => .fn f (a.map (renV s k n)) (b.map (renV s k n))
    | .fv ro x => .fv ro x
    | .top => .top
    | .yv => .yv
def renB (s k : Nat) : Blk → Blk
  | .box cells => .box (cells.map (renV s k 5))
  | b => b
theorem shp_renB (s k : Nat) (b : Blk) : shp (renB s k b) = shp b := by cases b <;> simp [renB, shp]
def St.ren (σ : St) (s k : Nat) : St :=
  { env := ((σ.drop k).kill [k]).env.map fun e => (e.1, renV s k 5 e.2),
    blk := match lk s ((σ.drop k).kill [k]).blk with
      | some b => put k (renB s k b) (rm s (((σ.drop k).kill [k]).blk.map fun e => (e.1, renB s k e.2)))
      | none => [], tr := ((σ.drop k).kill [k]).tr }
section
variable {C : Base} {σ : St} {a : Act} {w w' : World} {μ : Mu} {Fz Fy : Nat → Prop} {G : Pg}
theorem renV_sound {sh sh' : Mu} {s k : Nat} (hkY : k ≠ YN) (hsk : s ≠ k) (h1 : sh' k = sh s) (h2 : ∀ t, t ≠ k → t ≠ s → sh' t = sh t) : ∀ (n : Nat) {x : V} {v : Value}, RepV μ sh Fz Fy w x v → (∃ m, ment m k x = false) → RepV (setMu μ k (μ s)) sh' Fz Fy w (renV s k n x) v
  | 0, _, _, _, _ => .top _
  | n + 1, x, v, hv, hk => by
    have hmu : ∀ t, t ≠ k → setMu μ k (μ s) t = μ t := fun t ht => by simp [setMu, ht]
    have hmk : setMu μ k (μ s) k = μ s := by simp [setMu]
    obtain ⟨m, hm⟩ := hk
    cases m with
    | zero => simp [ment] at hm
    | succ m =>
    cases hv with
    | yv l hl => exact .yv l (by simp only [setMu, if_neg (Ne.symm hkY)]; exact hl)
    | top => exact .top _
    | fv _ _ _ h => exact .fv _ _ _ h
    | ownx t o l _ h =>
      simp only [ment, beq_eq_false_iff_ne, ne_eq] at hm
      simp only [renV]
      split
      · rename_i e; subst e; exact .ownx _ _ _ _ (h1.trans h)
      · rename_i e; exact .ownx _ _ _ _ ((h2 t hm e).trans h)
    | own t o l ad cap sz nn hs hn hc hmm =>
      simp only [ment, beq_eq_false_iff_ne, ne_eq] at hm
      simp only [renV]
      split
      · rename_i e; subst e
        exact .own _ _ _ ad cap sz nn (h1.trans hs) hn hc (hmm.imp id fun ⟨b, base, e1, e2, e3⟩ => ⟨b, base, hmk.trans e1, e2, e3⟩)
      · rename_i e
        exact .own _ _ _ ad cap sz nn ((h2 t hm e).trans hs) hn hc (hmm.imp id fun ⟨b, base, e1, e2, e3⟩ => ⟨b, base, (hmu t hm).trans e1, e2, e3⟩)
    | ptrx t o _ h =>
      simp only [ment, beq_eq_false_iff_ne, ne_eq] at hm
      simp only [renV]
      split
      · rename_i e; subst e; exact .ptrx _ _ _ (h1.trans h)
      · rename_i e; exact .ptrx _ _ _ ((h2 t hm e).trans h)
    | ptr t o b base h =>
      simp only [ment, beq_eq_false_iff_ne, ne_eq] at hm
      simp only [renV]
      split
      · rename_i e; subst e; exact .ptr _ _ b base (hmk.trans h)
      · exact .ptr _ _ b base ((hmu t hm).trans h)
    | pelx t i j _ h =>
      simp only [ment, beq_eq_false_iff_ne, ne_eq] at hm
      simp only [renV]
      split
      · rename_i e; subst e; exact .pelx _ _ _ _ (h1.trans h)
      · rename_i e; exact .pelx _ _ _ _ ((h2 t hm e).trans h)
    | pel t i j sz nn b base hs hi h =>
      simp only [ment, beq_eq_false_iff_ne, ne_eq] at hm
      simp only [renV]
      split
      · rename_i e; subst e; exact .pel _ _ _ sz nn b base (h1.trans hs) hi (hmk.trans h)
      · rename_i e; exact .pel _ _ _ sz nn b base ((h2 t hm e).trans hs) hi ((hmu t hm).trans h)
    | mapx t _ h =>
      simp only [ment, beq_eq_false_iff_ne, ne_eq] at hm
      simp only [renV]
      split
      · rename_i e; subst e; exact .mapx _ _ (h1.trans h)
      · rename_i e; exact .mapx _ _ ((h2 t hm e).trans h)
    | map t b base h =>
      simp only [ment, beq_eq_false_iff_ne, ne_eq] at hm
      simp only [renV]
      split
      · rename_i e; subst e; exact .map _ b base (hmk.trans h)
      · exact .map _ b base ((hmu t hm).trans h)
    | agg cs vs hs hr =>
      simp only [ment, List.any_eq_false] at hm
      refine .agg _ vs (by simp [hs]) fun j y hj => ?_
      simp only [List.getElem?_map, Option.map_eq_some_iff] at hj
      obtain ⟨y', hy', rfl⟩ := hj
      exact renV_sound hkY hsk h1 h2 n (hr j y' hy') ⟨m, by simpa using hm y' (List.mem_of_getElem? hy')⟩
    | tup cs vs hs hr =>
      simp only [ment, List.any_eq_false] at hm
      refine .tup _ vs (by simp [hs]) fun j y hj => ?_
      simp only [List.getElem?_map, Option.map_eq_some_iff] at hj
      obtain ⟨y', hy', rfl⟩ := hj
      exact renV_sound hkY hsk h1 h2 n (hr j y' hy') ⟨m, by simpa using hm y' (List.mem_of_getElem? hy')⟩
    | fn f as bs vf vc hs hs' hr hr' =>
      simp only [ment, Bool.or_eq_false_iff, List.any_eq_false] at hm
      refine .fn f _ _ vf vc (by simp [hs]) (by simp [hs']) (fun j y hj => ?_) (fun j y hj => ?_)
      · simp only [List.getElem?_map, Option.map_eq_some_iff] at hj
        obtain ⟨y', hy', rfl⟩ := hj
        exact renV_sound hkY hsk h1 h2 n (hr j y' hy') ⟨m, by simpa using hm.1 y' (List.mem_of_getElem? hy')⟩
      · simp only [List.getElem?_map, Option.map_eq_some_iff] at hj
        obtain ⟨y', hy', rfl⟩ := hj
        exact renV_sound hkY hsk h1 h2 n (hr' j y' hy') ⟨m, by simpa using hm.2 y' (List.mem_of_getElem? hy')⟩
theorem Sim.ren (h : Sim C σ a w μ Fz Fy) {s k : Nat} (hkY : k ≠ YN) (hsk : s ≠ k) (hs : pres σ s = true) : Sim C (σ.ren s k) a w (setMu μ k (μ s)) Fz Fy := by
  have h' := (h.drop k).kill [k]
  have hfree := St.free_kill (σ.drop k) [k] (s := k) (by simp)
  have hkn : lk k ((σ.drop k).kill [k]).blk = none := by simp [St.kill, St.drop, lk_map, lk_rm]
  have hsp : lk s ((σ.drop k).kill [k]).blk ≠ none := by
    simp only [pres, Option.isSome_iff_exists] at hs
    obtain ⟨b, hb⟩ := hs
    simp [St.kill, St.drop, lk_map, lk_rm, hsk, hb]
  unfold St.ren
  generalize hτ : (σ.drop k).kill [k] = τ at h' hfree hkn hsp
  cases hb : lk s τ.blk with
  | none => exact absurd hb hsp
  | some B =>
  simp only
  have hlk : ∀ t, lk t (put k (renB s k B) (rm s (τ.blk.map fun e => (e.1, renB s k e.2)))) = if t = k then some (renB s k B) else if t = s then none else (lk t τ.blk).map (renB s k) := fun t => by
    rw [lk_put]
    split
    · rfl
    · rw [lk_rm]
      split
      · rfl
      · rw [lk_map]
  have hsh1 : shs { env := τ.env.map fun e => (e.1, renV s k 5 e.2), blk := put k (renB s k B) (rm s (τ.blk.map fun e => (e.1, renB s k e.2))) } k = shs τ s := by
    simp [shs, hlk, hb, shp_renB]
  have hsh2 : ∀ t, t ≠ k → t ≠ s → shs { env := τ.env.map fun e => (e.1, renV s k 5 e.2), blk := put k (renB s k B) (rm s (τ.blk.map fun e => (e.1, renB s k e.2))) } t = shs τ t := fun t h1 h2 => by
    simp only [shs, hlk, h1, h2, if_false, Option.map_map]
    cases lk t τ.blk with
    | none => rfl
    | some x => simp [shp_renB]
  -- which block a name stands for
  have hwho : ∀ t, lk t (put k (renB s k B) (rm s (τ.blk.map fun e => (e.1, renB s k e.2)))) ≠ none → ∃ t', lk t' τ.blk ≠ none ∧ setMu μ k (μ s) t = μ t' ∧ (t = k ∧ t' = s ∨ t ≠ k ∧ t ≠ s ∧ t' = t) := fun t ht => by
    rw [hlk] at ht
    by_cases h1 : t = k
    · exact ⟨s, by simp [hb], by simp [setMu, h1], .inl ⟨h1, rfl⟩⟩
    · simp only [h1, if_false] at ht
      by_cases h2 : t = s
      · simp [h2] at ht
      · simp only [h2, if_false] at ht
        exact ⟨t, fun e => by simp [e] at ht, by simp [setMu, h1], .inr ⟨h1, h2, rfl⟩⟩
  have hrepB : ∀ t t' b, lk t' τ.blk = some b → setMu μ k (μ s) t = μ t' → RepB (setMu μ k (μ s)) (shs { env := τ.env.map fun e => (e.1, renV s k 5 e.2), blk := put k (renB s k B) (rm s (τ.blk.map fun e => (e.1, renB s k e.2))) }) Fz Fy w t (renB s k b) := fun t t' b ht hμ => by
    have := h'.blk t' b ht
    cases this with
    | nil => exact .nil _
    | arr _ _ r base c e hm hh hc hsz hr => exact .arr _ _ r base c e (hμ.trans hm) hh hc hsz hr
    | mp _ r c kk hm hh hc hr => exact .mp _ r c kk (hμ.trans hm) hh hc hr
    | box cells r c e hm hh hc hr =>
      refine .box _ r c e (hμ.trans hm) hh (by simpa using hc) fun j y hj => ?_
      simp only [List.getElem?_map, Option.map_eq_some_iff] at hj
      obtain ⟨y', hy', rfl⟩ := hj
      exact renV_sound hkY hsk hsh1 hsh2 5 (hr j y' hy') (hfree.2 t' cells ht y' (List.mem_of_getElem? hy'))
  refine { defers := h'.defers, size := h'.size, env := fun t v ht => ?_, blk := fun t b ht => ?_, live := fun t ht r base hr => ?_, inj := fun t u ht hu htu r base r' base' hr hr' => ?_, zy := h'.zy, yl := h'.yl, z0 := h'.z0, below := h'.below, big := h'.big, dist := h'.dist, small := h'.small, y0 := h'.y0, lp := h'.lp, mm := h'.mm, yd := fun y hy => ⟨by simp only [setMu, if_neg (Ne.symm hkY)]; exact (h'.yd y hy).1, (h'.yd y hy).2⟩, fm := fun r hr => ⟨(h'.fm r hr).1, (h'.fm r hr).2.1, fun t ht base hb => let ⟨t', e1, e2, _⟩ := hwho t ht; (h'.fm r hr).2.2 t' e1 base (e2 ▸ hb)⟩ }
  · simp only [lk_map, Option.map_eq_some_iff] at ht
    obtain ⟨v', hv', rfl⟩ := ht
    exact ⟨(h'.env t v' hv').1, renV_sound hkY hsk hsh1 hsh2 5 (h'.env t v' hv').2 (hfree.1 t v' hv')⟩
  · simp only [hlk] at ht
    by_cases h1 : t = k
    · subst h1
      simp only [if_true, Option.some.injEq] at ht
      subst ht
      exact hrepB t s B hb (by simp [setMu])
    · simp only [h1, if_false] at ht
      by_cases h2 : t = s
      · simp [h2] at ht
      · simp only [h2, if_false, Option.map_eq_some_iff] at ht
        obtain ⟨b', hb', rfl⟩ := ht
        exact hrepB t t b' hb' (by simp [setMu, h1])
  · obtain ⟨t', h1, h2, _⟩ := hwho t ht
    exact h'.live t' h1 r base (h2 ▸ hr)
  · obtain ⟨t', h1, h2, h3⟩ := hwho t ht
    obtain ⟨u', k1, k2, k3⟩ := hwho u hu
    refine h'.inj t' u' h1 k1 ?_ r base r' base' (h2 ▸ hr) (k2 ▸ hr')
    rcases h3 with ⟨rfl, rfl⟩ | ⟨a1, a2, rfl⟩ <;> rcases k3 with ⟨rfl, rfl⟩ | ⟨b1, b2, rfl⟩
    · exact absurd rfl htu
    · exact fun e => b2 e.symm
    · exact a2
    · exact htu

def asgA (G : Pg) (keep : List Nat) (σ : St) (d ty : Nat) (v : V) : Option St :=
  match v with
  | .own s off len =>
    if (s == d || keep.contains s) = true then some { σ with env := put d v σ.env }
    else if pres σ s = true then some { σ.ren s d with env := put d (.own d off len) (σ.ren s d).env } else none
  | .fv ro (.sl true sz []) => match lk ty G.tbl with
    | some ⟨_, _, _, .slice e⟩ => match lk e G.tbl with
      | some ti => some (σ.mk' d (.arr ti.size []) (.own d 0 0))
      | none => none
    | _ => some { σ with env := put d v σ.env }
  | _ => some { σ with env := put d v σ.env }
theorem asgA_sound (h : Sim C σ a w μ Fz Fy) {keep : List Nat} {d ty : Nat} (hd : d < C.N) {x : V} {σ' : St} (hs : asgA G keep σ d ty x = some σ') {v : Value} (hv : RepV μ (shs σ) Fz Fy w x v) :
    ∃ μ', Sim C σ' (a.put (some d) v) w μ' Fz Fy := by
  unfold asgA at hs
  split at hs
  · rename_i s off len
    split at hs
    · simp only [Option.some.injEq] at hs; subst hs
      exact ⟨μ, h.set d hd _ _ hv⟩
    · rename_i hns
      split at hs
      · rename_i hp
        simp only [Option.some.injEq] at hs; subst hs
        simp only [Bool.or_eq_true, beq_iff_eq, not_or] at hns
        have hr := h.ren (ne_YN h.small hd) hns.1 hp
        refine ⟨_, hr.set d hd _ _ ?_⟩
        have hsh1 : shs (σ.ren s d) d = shs σ s := by
          simp only [pres, Option.isSome_iff_exists] at hp
          obtain ⟨b, hb⟩ := hp
          have hb' : lk s ((σ.drop d).kill [d]).blk = some (killB [d] b) := by simp [St.kill, St.drop, lk_map, lk_rm, hns.1, hb]
          simp only [shs, St.ren, hb', lk_put_same, hb, Option.map_some, shp_renB, shp_killB]
        cases hv with
        | ownx _ _ _ _ hx => exact (pres_sh hp hx).elim
        | own _ _ _ ad cap sz n hsh hn hc hm =>
          exact .own d off len ad cap sz n (hsh1.trans hsh) hn hc (hm.imp id fun ⟨b, base, e1, e2, e3⟩ => ⟨b, base, by simpa [setMu] using e1, e2, e3⟩)
      · simp at hs
  · rename_i ro sz
    split at hs
    · split at hs
      · rename_i ti hti
        simp only [Option.some.injEq] at hs; subst hs
        cases hv with
        | fv _ _ _ hv =>
        cases hv with
        | sl0 _ _ ad cap hcl =>
          refine ⟨_, h.made hd (Stays.of_below h (Below.refl _ w)) none _ _ _ (by simp) (.nil _) (.own d 0 0 ad cap ti.size 0 ?_ (by simp) (by omega) (.inl (hcl rfl)))⟩
          rw [shs_mk]; simp [shp]
        | sl _ _ _ b o len cap us hlen hcap hclip =>
          simp only [List.length_nil] at hlen
          subst hlen
          refine ⟨_, h.made hd (Stays.of_below h (Below.refl _ w)) none _ _ _ (by simp) (.nil _) (.own d 0 0 _ cap ti.size 0 ?_ (by simp) (by omega) (.inl (hclip rfl)))⟩
          rw [shs_mk]; simp [shp]
      · simp at hs
    · simp only [Option.some.injEq] at hs; subst hs
      exact ⟨μ, h.set d hd _ _ hv⟩
  · simp only [Option.some.injEq] at hs; subst hs
    exact ⟨μ, h.set d hd _ _ hv⟩

/-- A call: plain, or with what is handed over. -/
def callX (G : Pg) (σ : St) (d : Nat) (f : V) (args : List V) : Option St :=
  match callA G σ d f args with
  | some σ' => some σ'
  | none => match callB G σ d f args with
    | some σ' => some σ'
    | none => srtA G σ d f args
/-! ### The step of an operation -/
def stepA (G : Pg) (keep : List Nat) (N : Nat) (σ : St) (o : Oper) : Option St :=
  match o.dst with
  | none => match o.op with
    | .store t p x => match opd σ p, opd σ x with
      | some p, some x => stoA G σ t p x
      | _, _ => none
    | .mapUpdate t m k x => match opd σ m, opd σ k, opd σ x with
      | some m, some k, some x => updMap G σ t m k x
      | _, _, _ => none
    | op => (popA G σ op).map fun _ => σ
  | some d => if d < N then
      match o.op with
      | .assign x => match opd σ x with
        | some v => asgA G keep σ d o.type v
        | none => none
      | .alloc t => allocA G σ d t
      | .box t x => match opd σ x with
        | some v => boxA σ d v
        | none => none
      | .buildSlice t len ps => match parts σ ps.toList with
        | some [] => bs0A G σ d t len
        | some ps => bsA G σ d t len ps
        | none => none
      | .makeMap t none => some (mkMapA σ d)
      | .lookup t x k ok => match opd σ x, opd σ k with
        | some p, some (.fv _ k) => match lookMap G σ t p k ok with
          | some v => some { σ with env := put d v σ.env }
          | none => none
        | _, _ => none
      | .makeSlice t l c => match opd σ l, opd σ c with
        | some l, some c => match intN l, intN c with
          | some l, some c => mkA G σ d t l c
          | _, _ => none
        | _, _ => none
      | .call ⟨.builtin .append, args, ats⟩ => match args.toList, ats.toList with
        | [x, y], [t, t'] => if t = t' then match opd σ x, opd σ y with
            | some x, some y => appA G σ d t x y
            | _, _ => none
          else none
        | _, _ => none
      | .call ⟨.value f, args, _⟩ => match opd σ f, opds σ args.toList with
        | some f, some args => callX G σ d f args
        | _, _ => none
      | op => match popA G σ op with
        | some v => some { σ with env := put d v σ.env }
        | none => none
    else none
theorem stepA_sound (hT : TOk G) (hC : CtxOk G) (h : Sim C σ a w μ Fz Fy) {keep : List Nat} {o : Oper} {σ' : St} (hs : stepA G keep C.N σ o = some σ') {K : Act → World → Prop} {Q : Exit → Act → World → Prop}
    (hK : ∀ a' w' μ' Fz' Fy', Sim C σ' a' w' μ' Fz' Fy' → K a' w') : o.wp G.P a w K Q := by
  have value : ∀ {u : Value} {w' : World}, (execOp a.eval o).run G.P w = .ok (.value u) w' → K (a.put o.dst u) w' → o.wp G.P a w K Q := fun hr hk => by
    unfold Oper.wp; rw [hr]; exact hk
  unfold stepA at hs
  split at hs
  · rename_i hdst
    split at hs
    · rename_i t p x hop
      split at hs
      · rename_i pv xv hp hx
        obtain ⟨w', Fz', Fy', hr, hS⟩ := stoA_sound hT h hs (opd_sound h hp) (opd_sound h hx)
        have hrun : (execOp a.eval o).run G.P w = .ok .skip w' := by
          unfold execOp
          simp only [hop, Sem.run_bind, hr, Result.andThen_ok, Sem.run_pure]
        unfold Oper.wp
        rw [hrun, Oper.upon_skip, hdst]
        exact hK _ _ _ _ _ hS
      · simp at hs
    · rename_i t m k x hop
      split at hs
      · rename_i mv kv xv hm hk hx
        obtain ⟨w', Fz', Fy', hr, hS⟩ := updMap_sound hT h hs (opd_sound h hm) (opd_sound h hk) (opd_sound h hx)
        have hrun : (execOp a.eval o).run G.P w = .ok .skip w' := by
          unfold execOp
          simp only [hop, Sem.run_bind, hr, Result.andThen_ok, Sem.run_pure]
        unfold Oper.wp
        rw [hrun, Oper.upon_skip, hdst]
        exact hK _ _ _ _ _ hS
      · simp at hs
    · simp only [Option.map_eq_some_iff] at hs
      obtain ⟨v, hv, rfl⟩ := hs
      obtain ⟨u, hr, _⟩ := pop_sound hT h o hv
      refine value hr ?_
      rw [hdst]
      exact hK _ _ _ _ _ h
  · rename_i d hdst
    split at hs
    · rename_i hd
      have fin : ∀ {u : Value} {w' : World} {μ' : Mu} {Fz' Fy' : Nat → Prop}, (execOp a.eval o).run G.P w = .ok (.value u) w' → Sim C σ' (a.put (some d) u) w' μ' Fz' Fy' → o.wp G.P a w K Q := fun hr hS => value hr (by rw [hdst]; exact hK _ _ _ _ _ hS)
      split at hs
      · rename_i x hop
        split at hs
        · rename_i v hv
          obtain ⟨μ', hS⟩ := asgA_sound h hd hs (opd_sound h hv)
          exact fin (by unfold execOp; simp only [hop]; rfl) hS
        · simp at hs
      · rename_i t hop
        obtain ⟨u, w', μ', hr, hS⟩ := allocA_sound hT h hd hs (.tuple #[])
        exact fin (by unfold execOp; simp only [hop, Sem.run_bind, hr, Result.andThen_ok, Sem.run_pure]) hS
      · rename_i t x hop
        split at hs
        · rename_i v hv
          obtain ⟨u, w', μ', hr, hS⟩ := boxA_sound h hd hs (opd_sound h hv) G.P t
          exact fin (by unfold execOp; simp only [hop, Sem.run_bind, hr, Result.andThen_ok, Sem.run_pure]) hS
        · simp at hs
      · rename_i t len ps hop
        split at hs
        · rename_i hps
          obtain ⟨k1, _⟩ := parts_sound h hps
          have e0 : ps = #[] := Array.eq_empty_of_size_eq_zero (by simpa using k1.symm)
          obtain ⟨u, w', hr, hS⟩ := bs0A_sound hT h hd hs
          exact fin (by unfold execOp; simp only [hop, e0, Array.map_empty, Sem.run_bind, hr, Result.andThen_ok, Sem.run_pure]) hS
        · rename_i ps' hps
          obtain ⟨k1, k2⟩ := parts_sound h hps
          obtain ⟨u, w', μ', Fz', Fy', hr, hS⟩ := bsA_sound hT h hd hs (ps.map fun (i, x) => (i, a.eval x)) (by simp [k1]) (fun j x hj => by
            obtain ⟨y, hy, hr⟩ := k2 j x hj
            have hy' : ps[j]? = some (x.1, y) := by simpa using hy
            exact ⟨a.eval y, by simp [hy'], hr⟩)
          exact fin (by unfold execOp; simp only [hop, Sem.run_bind, hr, Result.andThen_ok, Sem.run_pure]) hS
        · simp at hs
      · rename_i t hop
        simp only [Option.some.injEq] at hs; subst hs
        obtain ⟨u, w', μ', hr, hS⟩ := mkMapA_sound h hd G.P t
        exact fin (by unfold execOp; simp only [hop, Option.map_none, Sem.run_bind, hr, Result.andThen_ok, Sem.run_pure]) hS
      · rename_i t x k ok hop
        split at hs
        · rename_i p ro kf hp hk
          split at hs
          · rename_i v hv
            simp only [Option.some.injEq] at hs; subst hs
            have hkv := opd_sound h hk
            generalize hku : a.eval k = ku at hkv
            cases hkv with
            | fv _ _ _ hkv =>
            obtain ⟨y, hr, hrep⟩ := lookMap_sound hT h hv (opd_sound h hp) hkv (ok := ok)
            exact fin (by unfold execOp; simp only [hop, hku, Sem.run_bind, hr, Result.andThen_ok, Sem.run_pure]) (h.set d hd _ _ hrep)
          · simp at hs
        · simp at hs
      · rename_i t l c hop
        split at hs
        · rename_i lv cv hl hc
          split at hs
          · rename_i ln cn hln hcn
            obtain ⟨k1, e1⟩ := intN_sound hln (opd_sound h hl)
            obtain ⟨k2, e2⟩ := intN_sound hcn (opd_sound h hc)
            obtain ⟨u, w', μ', hr, hS⟩ := mkA_sound hT h hd hs k1 k2
            exact fin (by unfold execOp; simp only [hop, Sem.run_bind, e1, e2, hr, Result.andThen_ok, Sem.run_pure]) hS
          · simp at hs
        · simp at hs
      · rename_i args ats hop
        split at hs
        · rename_i x y t t' hargs hats
          split at hs
          · rename_i htt
            subst htt
            split at hs
            · rename_i xw yw hx hy
              have e1 : args = #[x, y] := Array.toList_inj.1 hargs
              have e2 : ats = #[t, t] := Array.toList_inj.1 hats
              subst e1; subst e2
              obtain ⟨u, w', μ', hr, hS⟩ := appA_sound hT h hd hs (opd_sound h hx) (opd_sound h hy) o.type
              exact fin (by unfold execOp; simp [hop, resolve, invoke, builtin, hr]) hS
            · simp at hs
          · simp at hs
        · simp at hs
      · rename_i f args ats hop
        split at hs
        · rename_i fv avs hf ha
          unfold callX at hs
          split at hs
          · rename_i τ hτ
            exact callA_sound hT hC h hd (hτ.trans hs) hop hdst (opd_sound h hf) (opds_cells h ha) hK
          · split at hs
            · rename_i τ hτ
              exact callB_sound hT hC h hd (hτ.trans hs) hop hdst (opd_sound h hf) (opds_cells h ha) hK
            · exact srtA_sound hT hC h hd hs hop hdst (opd_sound h hf) (opds_cells h ha) hK
        · simp at hs
      · split at hs
        · rename_i v hv
          simp only [Option.some.injEq] at hs; subst hs
          obtain ⟨u, hr, hrep⟩ := pop_sound hT h o hv
          exact fin hr (h.set d hd _ _ hrep)
        · simp at hs
    · simp at hs
end
end Go.Proofs.Ytoafhoihigfllaa.E
