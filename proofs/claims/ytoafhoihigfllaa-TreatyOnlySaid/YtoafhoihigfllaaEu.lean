/-
  The engine, part u: a step of the engine in the frame of a round of a range over a function, too: the wide fence, with a round or none. Conditions: none; it is stated of any program and table of its types.
-/
import Derived.Test.YtoafhoihigfllaaEn
import Derived.CallsIn
import Derived.ControlIn
import Derived.Scope
namespace Go.Proofs.Ytoafhoihigfllaa.E
open Go Go.RowKit
set_option linter.unusedVariables false

/-- The wide fence: whatever is called; in a round, or in none. -/
def FR (r : Option Nat) : Fence := { Fence.wide with round := r }
theorem fenced_FR (P : Program) (r : Option Nat) : Machine.fenced P (FR r) = Machine.fenced P Fence.wide := rfl
theorem room_FR (r : Option Nat) (n : Nat) : (FR r).room n := fun d h => by simp [FR, Fence.wide] at h
theorem callsIn_FR {r : Option Nat} {n : Nat} {P : Program} {f : FuncId} {args : Array Value} {w : World} {R : Ending → World → Prop} : CallsIn (FR r) n P f args w R ↔ Calls P f args w R :=
  ⟨fun h cs => let ⟨e, w', fr, r, s, x⟩ := h.2 cs (room_FR _ _); ⟨e, w', fr, r, comesIn_wide.1 s, x⟩,
   fun h => ⟨trivial, fun cs _ => let ⟨e, w', fr, r, s, x⟩ := h cs; ⟨e, w', fr, r, comesIn_wide.2 s, x⟩⟩⟩
theorem rowsIn_FR {r : Option Nat} {n : Nat} {P : Program} {row : String} {args : Array Value} {w : World} {R : Value → World → Prop} (h : Rows P row args w R) : RowsIn (FR r) n P row args w R :=
  fun c cs _ => let ⟨v, w', r, s⟩ := h c cs; ⟨v, w', r, stepsIn_wide.2 s⟩
theorem oper_in {r : Option Nat} {n : Nat} {P : Program} {o : Oper} {a : Act} {w : World} {K : Act → World → Prop} {Q : Exit → Act → World → Prop} (hnd : ∀ c, o.op ≠ .defer c) (h : o.wp P a w K Q) : o.wpIn (FR r) n P a w K Q := by
  refine ⟨fun _ _ => trivial, ?_⟩
  rw [show (FR r).round = r from rfl, Oper.semAt_eq r a.eval o hnd]
  unfold Oper.wp at h
  generalize (execOp a.eval o).run P w = x at h ⊢
  match x, h with
  | .ok (.value v) w', h => exact h
  | .ok .skip w', h => exact h
  | .ok (.defer d) w', h => exact h
  | .ok (.enter f args) w', h => exact ⟨fun hd => by simp [FR, Fence.wide] at hd, callsIn_FR.2 h⟩
  | .ok (.row row args) w', h => exact ⟨fun hd => by simp [FR, Fence.wide] at hd, rowsIn_FR h⟩
  | .ok (.round ..) w', h => exact h.elim
  | .halt (.panic v) w', h => exact h
section
variable {F : Fence} {n : Nat} {P : Program} {b : Frame} {a : Act} {k : List Item} {cs : List Frame} {w : World} {Q : Exit → Act → World → Prop}
theorem stepR_scope {c : Code} : step P (lone (b.atR a (.code (.scope c) :: k)) cs w) = .next (lone (b.atR a (.code c :: .inScope c :: k)) cs w) :=
  step_lone_go (by simp [stepG, stepG.exec, Frame.atR])
theorem stepR_inScope {c : Code} : step P (lone (b.atR a (.inScope c :: k)) cs w) = .next (lone (b.atR a k) cs w) :=
  step_lone_go (by simp [stepG, stepG.exec, Frame.atR])
theorem wpIn_scope_straight {c : Code} (h : c.wpIn F n P (Exit.noGoto Q) a w) : (Code.scope c).wpIn F n P Q a w := by
  intro b k cs hro hb hr
  have h0 : (lone (b.atR a (.code (.scope c) :: k)) cs w).fenced P F := fenced_calm hb hr rfl
  obtain ⟨e, a₁, w₁, hq, harr⟩ := h b (.inScope c :: k) cs hro hb hr
  cases e with
  | normal => exact ⟨.normal, a₁, w₁, hq, .head h0 stepR_scope (StepsIn.trans harr (.one (fenced_calm hb hr rfl) stepR_inScope))⟩
  | exit id =>
    have hx : exitTo id (.inScope c :: k) = exitTo id k := by simp [exitTo]
    exact ⟨.exit id, a₁, w₁, hq, fun k' hk => .head h0 stepR_scope (harr.1 k' (by rw [hx]; exact hk)),
      fun hr' hk => let ⟨k₁, h1, h2⟩ := harr.2 hr' (by rw [hx]; exact hk); ⟨k₁, h1, .head h0 stepR_scope h2⟩⟩
  | goto l => exact hq.elim
  | ret => exact ⟨_, a₁, w₁, hq, .of_steps (.one h0 stepR_scope) harr⟩
  | panic ch => exact ⟨_, a₁, w₁, hq, .of_steps (.one h0 stepR_scope) harr⟩
  | outgrown => exact ⟨_, a₁, w₁, hq, .of_steps (.one h0 stepR_scope) harr⟩
end
/-! ### Yields -/
theorem roundIn_FR {P : Program} {r r' : Option Nat} {n m : Nat} {l : Nat} {f : FuncId} {tmps : Array Value} {assign body : Code} {w : World} {R : Ending → World → Prop} (h : RoundIn (FR r) n P l f tmps assign body w R) : RoundIn (FR r') m P l f tmps assign body w R :=
  ⟨trivial, fun c cs _ => h.2 c cs (room_FR _ _)⟩
/-- The loop that an iterator serves keeps its word. -/
structure YOk (G : Pg) (C : Base) : Prop where
  y : ∀ xs st, G.yl = some (xs, st) → ∃ zs y, xs = some zs ∧ C.yl = some y ∧ ∀ (n : Nat) (x : List FV) (M : Nat → Prop) (w : World) (us : List Value), y.J n M w → zs[n]? = some x → us.length = x.length →
    (∀ (j : Nat) (z : FV), x[j]? = some z → ∃ u, us[j]? = some u ∧ RepF (fun _ => False) w z u) →
    ∃ fn tmps assign body, (Instr.yield y.l us.toArray).run G.P w = .ok (.round y.l fn tmps assign body) w ∧ RoundIn (FR none) 0 G.P y.l fn tmps assign body w (fun e w' => e = .returned (.bool (ans st n)) ∧ ∃ M', y.J (n + 1) M' w' ∧ Turn M M' w w')
theorem YOk.withM {G : Pg} {C : Base} (h : YOk G C) (M : Nat → Prop) : YOk G (C.withM M) := ⟨h.y⟩
theorem yok_none {G : Pg} {C : Base} (h : G.yl = none) : YOk G C := ⟨fun xs st e => by rw [h] at e; cases e⟩
def feq : FV → FV → Bool
  | .int k a, .int j b => k == j && a == b
  | .bool a, .bool b => a == b
  | .str a, .str b => a.data.toList == b.data.toList
  | .nilfn, .nilfn => true
  | .nilpt, .nilpt => true
  | .nilif, .nilif => true
  | .nilmp, .nilmp => true
  | .agg _, .agg _ => false
  | _, _ => false
def feqs : List FV → List FV → Bool
  | [], [] => true
  | .agg a :: r, .agg b :: s => feqs' a b && feqs r s
  | a :: r, b :: s => feq a b && feqs r s
  | _, _ => false
where feqs' : List FV → List FV → Bool
  | [], [] => true
  | a :: r, b :: s => feq a b && feqs' r s
  | _, _ => false
theorem feq_eq {a b : FV} (h : feq a b = true) : a = b ∧ flat1 a = true := by
  unfold feq at h
  split at h
  · simp only [Bool.and_eq_true, beq_iff_eq] at h; obtain ⟨rfl, rfl⟩ := h; exact ⟨rfl, rfl⟩
  · simp only [beq_iff_eq] at h; subst h; exact ⟨rfl, rfl⟩
  · rename_i a b
    simp only [beq_iff_eq] at h
    obtain ⟨⟨a⟩⟩ := a
    obtain ⟨⟨b⟩⟩ := b
    simp only at h; subst h; exact ⟨rfl, rfl⟩
  all_goals first | exact ⟨rfl, rfl⟩ | (simp at h)
theorem feqs'_eq : ∀ {a b : List FV}, feqs.feqs' a b = true → a = b ∧ ∀ x ∈ a, flat1 x = true
  | [], [], _ => ⟨rfl, by simp⟩
  | a :: r, b :: s, h => by
    simp only [feqs.feqs', Bool.and_eq_true] at h
    obtain ⟨rfl, h1⟩ := feq_eq h.1
    obtain ⟨rfl, h2⟩ := feqs'_eq h.2
    exact ⟨rfl, by simpa using ⟨h1, h2⟩⟩
  | [], _ :: _, h => by simp [feqs.feqs'] at h
  | _ :: _, [], h => by simp [feqs.feqs'] at h
theorem flat_of_flat1 {a : FV} (h : flat1 a = true) : flat a = true := by cases a <;> first | exact h | simp [flat1] at h
theorem feqs_eq : ∀ {a b : List FV}, feqs a b = true → a = b ∧ ∀ x ∈ a, flat x = true
  | [], [], _ => ⟨rfl, by simp⟩
  | a :: r, b :: s, h => by
    unfold feqs at h
    split at h
    · rename_i h0; cases h0
    · rename_i x r' y s' e1 e2
      cases e1; cases e2
      simp only [Bool.and_eq_true] at h
      obtain ⟨rfl, h1⟩ := feqs'_eq h.1
      obtain ⟨rfl, h2⟩ := feqs_eq h.2
      refine ⟨rfl, fun z hz => ?_⟩
      rcases List.mem_cons.1 hz with rfl | hz
      · simpa [flat] using h1
      · exact h2 z hz
    · rename_i e1 e2
      cases e1; cases e2
      simp only [Bool.and_eq_true] at h
      obtain ⟨rfl, h1⟩ := feq_eq h.1
      obtain ⟨rfl, h2⟩ := feqs_eq h.2
      refine ⟨rfl, fun z hz => ?_⟩
      rcases List.mem_cons.1 hz with rfl | hz
      · exact flat_of_flat1 h1
      · exact h2 z hz
    · simp at h
  | [], _ :: _, h => by simp [feqs] at h
  | _ :: _, [], h => by simp [feqs] at h
def yldA (G : Pg) (N : Nat) (σ : St) (o : Oper) : Option St :=
  match o.dst, o.op, G.yl with
  | some d, .call ⟨.value f, args, _⟩, some (xs, st) =>
    if d < N then
      match opd σ f, opds σ args.toList with
      | some .yv, some avs => match argsA σ avs with
        | some ys => match xs with
          | some zs => match zs[σ.tr.length]? with
            | some z => if feqs z (ys.map (·.2)) = true then some { σ with env := put d (.fv false (.bool (ans st σ.tr.length))) σ.env, tr := σ.tr ++ [z] } else none
            | none => none
          | none => some { σ with env := put d (.fv false (.bool (ans st σ.tr.length))) σ.env, tr := σ.tr ++ [ys.map (·.2)] }
        | none => none
      | _, _ => none
    else none
  | _, _, _ => none
def callI (G : Pg) (σ : St) (d : Nat) (f : V) (args : List V) : Option St :=
  match fnOf f with
  | some (k, first, captured) => match G.inl k d σ (first ++ args ++ captured) with
    | some (σ', vs) => some { σ' with env := put d (packV vs) σ'.env }
    | none => none
  | none => none
def inlA (G : Pg) (N : Nat) (σ : St) (o : Oper) : Option St :=
  match o.dst, o.op with
  | some d, .call ⟨.value f, args, _⟩ => if d < N then
      match opd σ f, opds σ args.toList with
      | some f, some args => callI G σ d f args
      | _, _ => none
    else none
  | _, _ => none
/-- The lists of one's own among the arguments, fixed. -/
def ownF (σ : St) : List V → Option (List Nat × List V)
  | [] => some ([], [])
  | v :: r => match ownF σ r with
    | some (ms, ys) => match v with
      | .own s off len => match elemA σ (.own s off len) with
        | some (ns, y) => some (ns ++ ms, .fv false y :: ys)
        | none => none
      | v => some (ms, v :: ys)
    | none => none
def callF (G : Pg) (σ : St) (d : Nat) (k : FuncId) (args : List V) : Option St :=
  match ownF σ args with
  | some (ns, ws) => match argsA (frees σ ns) ws with
    | some xs => match G.ctx k xs with
      | some res => some { (addRes d (res.length == 1) 0 res (frees σ ns)).1 with env := put d (packV (addRes d (res.length == 1) 0 res (frees σ ns)).2) (addRes d (res.length == 1) 0 res (frees σ ns)).1.env }
      | none => none
    | none => none
  | none => none
def frzA (G : Pg) (N : Nat) (σ : St) (o : Oper) : Option St :=
  match o.dst, o.op with
  | some d, .call ⟨.value f, args, _⟩ => if d < N then
      match opd σ f with
      | some f => match fnOf f with
        | some (k, first, captured) => if G.fz k = true then match opds σ args.toList with
            | some args => callF G σ d k (first ++ args ++ captured)
            | none => none
          else none
        | none => none
      | none => none
    else none
  | _, _ => none
def stepX (G : Pg) (keep : List Nat) (N : Nat) (σ : St) (o : Oper) : Option St :=
  match frzA G N σ o with
  | some σ' => some σ'
  | none => match stepA G keep N σ o with
  | some σ' => some σ'
  | none => match yldA G N σ o with
    | some σ' => some σ'
    | none => inlA G N σ o
section
variable {C : Base} {σ : St} {a : Act} {w w' : World} {μ : Mu} {Fz Fy : Nat → Prop} {G : Pg}
theorem stepA_nodefer {keep : List Nat} {N : Nat} {o : Oper} {σ' : St} (hs : stepA G keep N σ o = some σ') (c : Call) : o.op ≠ .defer c := by
  intro e
  unfold stepA at hs
  rw [e] at hs
  split at hs
  · simp [popA] at hs
  · split at hs
    · simp [popA] at hs
    · simp at hs
/-- Behind a round, in the frame of the iterator. -/
theorem Sim.turn (h : Sim C σ a w μ Fz Fy) {y : Yd} (hy : C.yl = some y) {M' : Nat → Prop} (ht : Turn C.M M' w w') {z : List FV} (hJ : y.J (σ.tr.length + 1) M' w') : Sim (C.withM M') { σ with tr := σ.tr ++ [z] } a w' μ Fz Fy := by
  obtain ⟨y1, y2, y3, y4, y5⟩ := h.yd y hy
  have hfix : ∀ b, Fy b → w'.heap[b]? = w.heap[b]? := fun b hb => ht.block b (h.yl b hb) fun hm => (h.fm b hm).2.1 hb
  have hown : ∀ s, lk s σ.blk ≠ none → ∀ b base, μ s = some (b, base) → w'.heap[b]? = w.heap[b]? := fun s hs b base hm => ht.block b (h.live s hs b base hm).2.1 fun hM => (h.fm b hM).2.2 s hs base hm
  have hbl : BelowX C w' := by
    refine ⟨ht.os.trans h.below.os, ht.tape.trans h.below.tape, ht.output.trans h.below.output, Nat.le_trans h.below.size ht.size, fun k hk hx => ?_, fun k c e fr hx hk hc => ?_⟩
    · refine (ht.block k (Nat.lt_of_lt_of_le hk h.big) fun hM => ?_).trans (h.below.block k hk hx)
      rcases y5 k hM with h1 | h1
      · omega
      · exact hx h1
    · obtain ⟨c1, h1, h2⟩ := h.below.kept k c e fr hx hk hc
      obtain ⟨c2, h3, h4⟩ := ht.keeps k c1 e fr h1
      exact ⟨c2, h3, h4.trans h2⟩
  have hst : Stays { C with yl := none, M := fun _ => False } σ w w' μ Fy := ⟨ht.keeps, hfix, hown, ⟨hbl.os, hbl.tape, hbl.output, hbl.size, hbl.block, hbl.kept⟩, ht.size, fun _ x => x.elim⟩
  have h0 : Sim { C with yl := none, M := fun _ => False } σ a w μ Fz Fy := { h with yd := fun _ e => by simp at e, fm := fun _ x => x.elim, mm := fun _ x => x.elim, below := ⟨h.below.os, h.below.tape, h.below.output, h.below.size, h.below.block, h.below.kept⟩ }
  have h1 := h0.stays hst
  have hyd : ∀ y', C.yl = some y' → μ YN = some (y'.l, 0) ∧ y'.J (σ.tr ++ [z]).length M' w' ∧ y'.n1 ≤ C.B ∧ (∀ b, b < y'.n1 → C.X b → M' b) ∧ ∀ b, M' b → C.mine b := fun y' e' => by
    rw [hy] at e'
    simp only [Option.some.injEq] at e'; subst e'
    refine ⟨y1, by simpa using hJ, y3, fun b hlt hx => ht.sub b (y4 b hlt hx), fun b hM => ?_⟩
    rcases ht.new b hM with h2 | h2
    · exact y5 b h2
    · exact .inl (Nat.le_trans h.big h2)
  have hfm : ∀ b, M' b → b < w'.heap.size ∧ ¬ Fy b ∧ ∀ s, lk s σ.blk ≠ none → ∀ base, μ s ≠ some (b, base) := fun b hb => by
   refine ⟨ht.lt b hb, fun hy' => ?_, fun s hs base hm => ?_⟩
   · rcases ht.new b hb with h2 | h2
     · exact (h.fm b h2).2.1 hy'
     · exact absurd (h.yl b hy') (by omega)
   · rcases ht.new b hb with h2 | h2
     · exact (h.fm b h2).2.2 s hs base hm
     · exact absurd (h.live s hs b base hm).2.1 (by omega)
  exact { h1 with yd := hyd, fm := hfm, mm := fun b hb => (ht.new b hb).elim (fun h2 => h.mm b h2) (fun h2 => .inl (Nat.le_trans h.big h2)), below := ⟨hbl.os, hbl.tape, hbl.output, hbl.size, hbl.block, hbl.kept⟩ }
theorem callI_sound (hC : CtxOk G) (h : Sim C σ a w μ Fz Fy) {d : Nat} (hd : d < C.N) {f : V} {args : List V} {σ' : St} (hs : callI G σ d f args = some σ') {o : Oper} {fo : Operand} {ao : Array Operand} {ats : Array TypeId}
    (ho : o.op = .call ⟨.value fo, ao, ats⟩) (hdst : o.dst = some d) (hf : RepV μ (shs σ) Fz Fy w f (a.eval fo)) (ha : Cells μ (shs σ) Fz Fy w args (ao.map a.eval)) {K : Act → World → Prop} {Q : Exit → Act → World → Prop}
    (hK : ∀ M' a' w' μ' Fz' Fy', More C M' → Sim (C.withM M') σ' a' w' μ' Fz' Fy' → K a' w') : o.wp G.P a w K Q := by
  unfold callI at hs
  split at hs
  · rename_i k first captured hfn
    split at hs
    · rename_i σ1 vs hin
      simp only [Option.some.injEq] at hs
      obtain ⟨hval, fn, hfn1, hfn2, hfn3⟩ := hC.l k d σ _ σ1 vs hin
      obtain ⟨vf, vc, hve, hcf, hcc⟩ := fnOf_sound hfn hf
      have hall := cells_app (cells_app hcf ha) hcc
      have hcall := hval C a w μ Fz Fy (vf ++ ao.map a.eval ++ vc).toList h (by rw [Array.length_toList, hall.1]) (fun j y hj => by
        have := hall.2 j y hj
        have hjl : j < (vf ++ ao.map a.eval ++ vc).size := by rw [hall.1]; exact (List.getElem?_eq_some_iff.1 hj).1
        refine ⟨(vf ++ ao.map a.eval ++ vc)[j], ?_, ?_⟩
        · rw [Array.getElem?_toList, Array.getElem?_eq_getElem hjl]
        · rw [Array.getD_eq_getD_getElem?, Array.getElem?_eq_getElem hjl] at this
          exact this)
      have hrun : (execOp a.eval o).run G.P w = .ok (.enter k (vf ++ ao.map a.eval ++ vc)) w := by
        unfold execOp
        simp only [ho, resolve, Deferred.ofValue, hve, Sem.run_bind, Sem.run_pure, Result.andThen_ok, invoke, callFunc, run_program, hfn1]
        simp [hfn2, hfn3]
      unfold Oper.wp
      rw [hrun, Oper.upon_enter]
      simp only [Array.toArray_toList] at hcall
      refine hcall.mono ?_
      rintro e w' ⟨rs, M', μ', Fz', Fy', rfl, hM, hS, hl, hr⟩
      simp only
      subst hs
      rw [hdst]
      exact hK M' _ _ _ _ _ hM (hS.set d hd _ _ (pack_rep hl hr))
    · simp at hs
  · simp at hs
theorem RepV.letgo {x : V} {v : Value} : ∀ {ns : List Nat} {σ : St}, RepV μ (shs σ) Fz Fy w x v → RepV μ (shs (frees σ ns)) (Of μ Fz ns) (Of μ Fy ns) w x v := by
  have h0 : ∀ {ns : List Nat} {σ : St}, RepV μ (shs σ) Fz Fy w x v → RepV μ (shs (frees σ ns)) Fz Fy w x v := by
    intro ns
    induction ns with
    | nil => exact fun h => h
    | cons s r ih => exact fun h => ih (RepV.drop s h)
  intro ns σ h
  exact (h0 h).mono (fun _ x => .inl x) (fun _ x => .inl x) (fun _ _ => rfl) (fun _ _ => rfl) (Keeps.refl w) (fun _ => False) (fun _ _ => .inr ⟨rfl, rfl⟩) (fun _ x => x) (fun _ x => x.elim)
theorem ownF_sound (h : Sim C σ a w μ Fz Fy) : ∀ {vs ws : List V} {ns : List Nat} {us : List Value}, ownF σ vs = some (ns, ws) → us.length = vs.length →
    (∀ (j : Nat) (y : V), vs[j]? = some y → ∃ u, us[j]? = some u ∧ RepV μ (shs σ) Fz Fy w y u) →
    (∀ s ∈ ns, lk s σ.blk ≠ none) ∧ ws.length = vs.length ∧ ∀ ms, (∀ s ∈ ns, s ∈ ms) → ∀ (j : Nat) (y : V), ws[j]? = some y → ∃ u, us[j]? = some u ∧ RepV μ (shs (frees σ ms)) (Of μ Fz ms) (Of μ Fy ms) w y u
  | [], ws, ns, us, hx, _, _ => by
    simp only [ownF, Option.some.injEq, Prod.mk.injEq] at hx
    obtain ⟨rfl, rfl⟩ := hx
    exact ⟨by simp, rfl, by simp⟩
  | v :: vs, ws, ns, us, hx, hl, hr => by
    cases us with
    | nil => simp at hl
    | cons u us =>
    obtain ⟨u', hu', hru⟩ := hr 0 v rfl
    simp only [List.getElem?_cons_zero, Option.some.injEq] at hu'; subst hu'
    unfold ownF at hx
    split at hx
    · rename_i ms ys hm
      obtain ⟨b1, b2, b3⟩ := ownF_sound h (us := us) hm (by simpa using hl) (fun j y hj => by simpa using hr (j + 1) y (by simpa using hj))
      split at hx
      · split at hx
        · rename_i ns' y he
          simp only [Option.some.injEq, Prod.mk.injEq] at hx
          obtain ⟨rfl, rfl⟩ := hx
          obtain ⟨a1, a2⟩ := elemA_sound h he hru
          refine ⟨fun s hs => (List.mem_append.1 hs).elim (a1 s) (b1 s), by simp [b2], fun zs hz j y hj => ?_⟩
          cases j with
          | zero =>
            simp only [List.getElem?_cons_zero, Option.some.injEq] at hj; subst hj
            refine ⟨u, rfl, .fv _ _ _ (a2.wider fun b hb => ?_)⟩
            rcases hb with hb | ⟨s, hs, hm'⟩
            · exact .inl hb
            · exact .inr ⟨s, hz s (List.mem_append_left _ hs), hm'⟩
          | succ j => simpa using b3 zs (fun s hs => hz s (List.mem_append_right _ hs)) j y (by simpa using hj)
        · cases hx
      · simp only [Option.some.injEq, Prod.mk.injEq] at hx
        obtain ⟨rfl, rfl⟩ := hx
        refine ⟨b1, by simp [b2], fun zs hz j y hj => ?_⟩
        cases j with
        | zero =>
          simp only [List.getElem?_cons_zero, Option.some.injEq] at hj; subst hj
          exact ⟨u, rfl, hru.letgo⟩
        | succ j => simpa using b3 zs hz j y (by simpa using hj)
    · cases hx
theorem callF_sound (hC : CtxOk G) (h : Sim C σ a w μ Fz Fy) {d : Nat} (hd : d < C.N) {f : V} {k : FuncId} {first captured : List V} (hfn : fnOf f = some (k, first, captured)) {args : List V} {σ' : St} (hs : callF G σ d k (first ++ args ++ captured) = some σ') {o : Oper} {fo : Operand} {ao : Array Operand} {ats : Array TypeId}
    (ho : o.op = .call ⟨.value fo, ao, ats⟩) (hdst : o.dst = some d) (hf : RepV μ (shs σ) Fz Fy w f (a.eval fo)) (ha : Cells μ (shs σ) Fz Fy w args (ao.map a.eval)) {K : Act → World → Prop} {Q : Exit → Act → World → Prop}
    (hK : ∀ a' w' μ' Fz' Fy', Sim C σ' a' w' μ' Fz' Fy' → K a' w') : o.wp G.P a w K Q := by
  unfold callF at hs
  split at hs
  · rename_i ns ws hown
    split at hs
    · rename_i xs hxs
      split at hs
      · rename_i res hres
        simp only [Option.some.injEq] at hs
        obtain ⟨hval, fn, hfn1, hfn2, hfn3⟩ := hC.c k xs res hres
        obtain ⟨vf, vc, hve, hcf, hcc⟩ := fnOf_sound hfn hf
        have hall := cells_app (cells_app hcf ha) hcc
        obtain ⟨o1, o2, o3⟩ := ownF_sound h (us := (vf ++ ao.map a.eval ++ vc).toList) hown (by rw [Array.length_toList, hall.1]) (fun j y hj => by
          have := hall.2 j y hj
          have hjl : j < (vf ++ ao.map a.eval ++ vc).size := by rw [hall.1]; exact (List.getElem?_eq_some_iff.1 hj).1
          refine ⟨(vf ++ ao.map a.eval ++ vc)[j], ?_, ?_⟩
          · rw [Array.getElem?_toList, Array.getElem?_eq_getElem hjl]
          · rw [Array.getD_eq_getD_getElem?, Array.getElem?_eq_getElem hjl] at this
            exact this)
        have h' := h.freezes o1
        obtain ⟨x1, x2⟩ := argsA_sound h' (us := (vf ++ ao.map a.eval ++ vc).toList) hxs (by rw [Array.length_toList, hall.1, o2]) (o3 ns fun _ x => x)
        have hall2 : ∀ b, AllOf (Of μ Fy ns) (frees σ ns) μ b → b < w.heap.size := by
          rintro b (hb | ⟨s, hp, base, hm⟩)
          · exact h'.yl b hb
          · exact (h'.live s hp b base hm).2.1
        have hcall := hval w (Of μ Fz ns) (AllOf (Of μ Fy ns) (frees σ ns) μ) (vf ++ ao.map a.eval ++ vc).toList (fun b hb => .inl (h'.zy b hb)) hall2 (by rw [Array.length_toList, hall.1, x1, o2]) x2
        have hrun : (execOp a.eval o).run G.P w = .ok (.enter k (vf ++ ao.map a.eval ++ vc)) w := by
          unfold execOp
          simp only [ho, resolve, Deferred.ofValue, hve, Sem.run_bind, Sem.run_pure, Result.andThen_ok, invoke, callFunc, run_program, hfn1]
          simp [hfn2, hfn3]
        unfold Oper.wp
        rw [hrun, Oper.upon_enter]
        simp only [Array.toArray_toList] at hcall
        refine hcall.mono ?_
        rintro e w' ⟨v, us, m, rfl, hbelow, hR⟩
        simp only
        obtain ⟨μ', Fz', Fy', hS⟩ := after_call h' (X := noX) (fun b hb => hb.elim) (Stays.of_below h' hbelow) hd hR
        subst hs
        rw [hdst]
        exact hK _ _ _ _ _ hS
      · simp at hs
    · simp at hs
  · simp at hs
theorem withM_self (C : Base) : C.withM C.M = C := rfl
/-- A step of an operation, a yield among them. -/
theorem stepX_sound (hT : TOk G) (hC : CtxOk G) (hY : YOk G C) (h : Sim C σ a w μ Fz Fy) {keep : List Nat} {o : Oper} {σ' : St} (hs : stepX G keep C.N σ o = some σ') {ro : Option Nat} {n : Nat} {K : Act → World → Prop} {Q : Exit → Act → World → Prop}
    (hK : ∀ M' a' w' μ' Fz' Fy', More C M' → Sim (C.withM M') σ' a' w' μ' Fz' Fy' → K a' w') : o.wpIn (FR ro) n G.P a w K Q := by
  unfold stepX at hs
  split at hs
  · rename_i τ hτ
    simp only [Option.some.injEq] at hs; subst hs
    unfold frzA at hτ
    split at hτ
    · rename_i d f args ats hdst hop
      split at hτ
      · rename_i hd
        split at hτ
        · rename_i fv hf
          split at hτ
          · rename_i k first captured hfn
            split at hτ
            · split at hτ
              · rename_i avs ha
                exact oper_in (fun c e => by rw [hop] at e; cases e) (callF_sound hC h hd hfn hτ hop hdst (opd_sound h hf) (opds_cells h ha) fun a' w' μ' Fz' Fy' h' => hK C.M a' w' μ' Fz' Fy' (More.refl C) h')
              · simp at hτ
            · simp at hτ
          · simp at hτ
        · simp at hτ
      · simp at hτ
    · simp at hτ
  split at hs
  · rename_i τ hτ
    simp only [Option.some.injEq] at hs; subst hs
    exact oper_in (stepA_nodefer hτ) (stepA_sound hT hC h hτ fun a' w' μ' Fz' Fy' h' => hK C.M a' w' μ' Fz' Fy' (More.refl C) h')
  · split at hs
    rotate_left
    · unfold inlA at hs
      split at hs
      · rename_i d f args ats hdst hop
        split at hs
        · rename_i hd
          split at hs
          · rename_i fv avs hf ha
            exact oper_in (fun c e => by rw [hop] at e; cases e) (callI_sound hC h hd hs hop hdst (opd_sound h hf) (opds_cells h ha) hK)
          · simp at hs
        · simp at hs
      · simp at hs
    rename_i τ hτ
    simp only [Option.some.injEq] at hs; subst hs
    have hs := hτ
    unfold yldA at hs
    split at hs
    · rename_i d f args ats xs st hdst hop hyl
      split at hs
      · rename_i hd
        split at hs
        · rename_i avs hf ha
          split at hs
          · rename_i ys hys
            obtain ⟨zs, y, rfl, hCy, hround⟩ := hY.y xs st hyl
            simp only at hs
            split at hs
            · rename_i z hz
              split at hs
              · rename_i hfe
                simp only [Option.some.injEq] at hs; subst hs
                obtain ⟨e1, e2⟩ := feqs_eq hfe
                obtain ⟨y1, y2, y3, y4, y5⟩ := h.yd y hCy
                have hv := opd_sound h hf
                generalize hfv : a.eval f = vf at hv
                cases hv with
                | yv l hm =>
                rw [y1] at hm
                simp only [Option.some.injEq, Prod.mk.injEq, and_true] at hm
                subst hm
                have hcells := opds_cells h ha
                obtain ⟨k1, k2⟩ := argsA_sound h (us := (args.map a.eval).toList) hys (by simpa using hcells.1) (fun j v hj => by
                  have := hcells.2 j v hj
                  have hjl : j < (args.map a.eval).size := by rw [hcells.1]; exact (List.getElem?_eq_some_iff.1 hj).1
                  exact ⟨(args.map a.eval)[j], by rw [Array.getElem?_toList, Array.getElem?_eq_getElem hjl], by rw [Array.getD_eq_getD_getElem?, Array.getElem?_eq_getElem hjl] at this; exact this⟩)
                obtain ⟨fn, tmps, assign, body, hy, hR⟩ := hround σ.tr.length z C.M w (args.map a.eval).toList y2 hz (by rw [e1, List.length_map, k1]; simpa using hcells.1) (fun j x hj => by
                  have hfl := e2 x (List.mem_of_getElem? hj)
                  rw [e1] at hj
                  simp only [List.getElem?_map, Option.map_eq_some_iff] at hj
                  obtain ⟨p, hp, rfl⟩ := hj
                  obtain ⟨u, hu, hr⟩ := k2 j p hp
                  exact ⟨u, hu, hr.of_flat hfl⟩)
                have hrun : (execOp a.eval o).run G.P w = .ok (.round y.l fn tmps assign body) w := by
                  unfold execOp
                  simp only [hop, resolve, Deferred.ofValue, hfv, Sem.run_bind, Sem.run_pure, Result.andThen_ok, invoke]
                  rw [Array.toArray_toList] at hy
                  simpa using hy
                refine ⟨fun _ _ => trivial, ?_⟩
                rw [show (FR ro).round = ro from rfl, Oper.semAt_eq ro a.eval o (fun c e => by rw [hop] at e; cases e), hrun, Oper.uponIn_round]
                refine ⟨fun hd => by simp [FR, Fence.wide] at hd, ?_⟩
                refine (roundIn_FR hR).mono ?_
                rintro e w' ⟨rfl, M', hJ, hturn⟩
                simp only
                rw [hdst]
                have h2 := h.turn hCy hturn (z := z) hJ
                exact hK M' _ _ _ _ _ ⟨hturn.sub, fun b hb => (hturn.new b hb).imp id fun hb => Nat.le_trans h.big hb⟩ (h2.set d hd _ _ (.fv _ _ _ (.bool _)))
              · simp at hs
            · simp at hs
          · simp at hs
        · simp at hs
      · simp at hs
    · simp at hs
end
end Go.Proofs.Ytoafhoihigfllaa.E
