/-
  The engine, part x: a range over a function: one round, and the whole. Conditions: none; it is stated of any program and table of its types.
-/
import Derived.Test.YtoafhoihigfllaaEw
namespace Go.Proofs.Ytoafhoihigfllaa.E
open Go Go.RowKit
set_option linter.unusedVariables false

/-- What comes, where the loop stops there. -/
def upTo (st : Option Nat) (xs : List (List FV)) : List (List FV) :=
  match st with
  | none => xs
  | some i => xs.take (i + 1)
def Ex.code : Ex → Code
  | .normal => .skip
  | .exit id => .exit id
  | .ret => .ret
theorem rounds_idx {F : St → Option (Ex × St)} {N : Nat} {ps : List Nat} : ∀ {xs : List (List FV)} {n : Nat} {σ σ' : St} {e : Ex} {st : Option Nat}, rounds F N ps n xs σ = some (st, e, σ') → ∀ i, st = some i → n ≤ i ∧ i < n + xs.length ∧ e ≠ .normal
  | [], n, σ, σ', e, st, h, i, hi => by simp only [rounds, Option.some.injEq, Prod.mk.injEq] at h; obtain ⟨rfl, _⟩ := h; cases hi
  | x :: r, n, σ, σ', e, st, h, i, hi => by
    simp only [rounds] at h
    split at h
    · split at h
      · obtain ⟨h1, h2, h3⟩ := rounds_idx h i hi
        exact ⟨by omega, by simp; omega, h3⟩
      · rename_i e' σ1 hne _
        simp only [Option.some.injEq, Prod.mk.injEq] at h
        obtain ⟨rfl, rfl, rfl⟩ := h
        cases hi
        exact ⟨Nat.le_refl _, by simp, fun e => hne e⟩
      · simp at h
    · simp at h
theorem bindP_len {N : Nat} : ∀ {ps : List Nat} {xs : List FV} {env env' : List (Nat × V)}, bindP N ps xs env = some env' → ps.length = xs.length
  | [], [], _, _, _ => rfl
  | p :: ps, x :: xs, env, env', h => by
    simp only [bindP] at h
    split at h
    · simp [bindP_len h]
    · simp at h
  | [], _ :: _, _, _, h => by simp [bindP] at h
  | _ :: _, [], _, _, h => by simp [bindP] at h

/-- What a piece of code comes to, by the engine, is what it does. -/
def Sound (G : Pg) (L : Live) (N : Nat) (D : Drawer) (n : Nat) (c : Code) : Prop :=
  ∀ (C : Base) (σ σ' : St) (e : Ex) (a : Act) (w : World) (μ : Mu) (Fz Fy : Nat → Prop) (Q : Exit → Act → World → Prop) (rm : Nat), C.N = N → YOk G C → Sim C σ a w μ Fz Fy → exec G L N D n c σ = some (e, σ') →
    (∀ M' a' w' μ' Fz' Fy', More C M' → Sim (C.withM M') σ' a' w' μ' Fz' Fy' → Q e.toExit a' w') → c.wpIn (FR C.rd) rm G.P Q a w

/-- What holds between two rounds. -/
structure RJ (C : Base) (a : Act) (F : St → Option (Ex × St)) (ps : List Nat) (xs : List (List FV)) (st : Option Nat) (e0 : Ex) (σ' : St) (l n1 : Nat) (Dm : Option Nat) (rec : LoopState → Option Code → Loop) (n : Nat) (M : Nat → Prop) (W : World) : Prop where
  ex : ∃ My μn Fzn Fyn σn, More C My ∧ (∀ b, My b → M b) ∧ Sim (C.withM My) σn a W μn Fzn Fyn ∧ (∀ s, lk s σn.blk ≠ none → ∀ b base, μn s = some (b, base) → M b ∧ b ≠ l ∧ Dm ≠ some b) ∧ (∀ b, Fyn b → (b < n1 ∨ M b) ∧ b ≠ l ∧ Dm ≠ some b) ∧ (∀ b, My b → b ≠ l ∧ Dm ≠ some b) ∧
    ((rounds F C.N ps n (xs.drop n) σn = some (st, e0, σ') ∧ W.heap[l]? = some (.loop (rec .ready none))) ∨ (∃ i, st = some i ∧ n = i + 1 ∧ σn = σ' ∧ W.heap[l]? = some (.loop (rec .done (some e0.code)))))
  ml : M l
  md : ∀ D, Dm = some D → M D ∧ D ≠ l ∧ C.B ≤ D ∧ W.heap[D]? = some (.deferred (some []))
  lt : ∀ b, M b → b < W.heap.size
  big : n1 ≤ W.heap.size
  cb : C.B ≤ l
  ln : l < n1
section
variable {C : Base} {a : Act} {F : St → Option (Ex × St)} {ps : List Nat} {xs : List (List FV)} {st : Option Nat} {e0 : Ex} {σ' : St} {l n1 : Nat} {Dm : Option Nat} {rec : LoopState → Option Code → Loop} {G : Pg}
theorem RJ.stab (hn1 : C.B ≤ n1) (n : Nat) (M : Nat → Prop) (W W' : World) (h : RJ C a F ps xs st e0 σ' l n1 Dm rec n M W) (g : Grow n1 M W W') : RJ C a F ps xs st e0 σ' l n1 Dm rec n M W' := by
  obtain ⟨⟨My, μn, Fzn, Fyn, σn, h1, h2, h3, h4, h5, h6, h7⟩, hl, hd, hlt, hb, hc, hln⟩ := h
  refine ⟨⟨My, μn, Fzn, Fyn, σn, h1, h2, ?_, h4, h5, h6, ?_⟩, hl, fun D e => ?_, fun b hb => Nat.lt_of_lt_of_le (hlt b hb) g.size, Nat.le_trans hb g.size, hc, hln⟩
  · refine h3.stays { keeps := g.keeps, fixed := fun b hb => g.block b (h5 b hb).1, own := fun s hs b base hm => g.block b (.inr (h4 s hs b base hm).1), below := ?_, size := g.size, rest := fun b hb => g.block b (.inr (h2 b hb)) }
    have hB := h3.below
    have hs : ∀ k, k < C.B → W'.heap[k]? = W.heap[k]? := fun k hk => g.block k (.inl (by omega))
    refine ⟨g.os.trans hB.os, g.tape.trans hB.tape, g.output.trans hB.output, Nat.le_trans hB.size g.size, fun k hk hx => (hs k hk).trans (hB.block k hk hx), fun k c e fr hx hk hc' => ?_⟩
    obtain ⟨c', e1, e2⟩ := hB.kept k c e fr hx hk hc'
    exact ⟨c', (hs k hk).trans e1, e2⟩
  · have e := g.block l (.inr hl)
    rcases h7 with ⟨k1, k2⟩ | ⟨i, k1, k2, k3, k4⟩
    · exact .inl ⟨k1, e.trans k2⟩
    · exact .inr ⟨i, k1, k2, k3, e.trans k4⟩
  · obtain ⟨k1, k2, k3, k4⟩ := hd D e
    exact ⟨k1, k2, k3, (g.block D (.inr k1)).trans k4⟩
theorem fold_putAll (psa : Array Nat) (us : List Value) (a : Act) : (psa.zip us.toArray).foldl (fun t (p, v) => t.setIfInBounds p v) a.tmps = (putAll { tmps := a.tmps, defers := [] } psa.toList us).tmps := by
  rw [(putAll_tmps psa.toList us _).1, ← Array.foldl_toList]
  simp
/-- ONE ROUND. -/
theorem round_sound {L : Live} {D : Drawer} {m : Nat} {assign body : Code} (hA : Sound G L C.N D m assign) (hB : Sound G L C.N D m body) (hY : YOk G C)
    (hF : F = fun τ => match exec G L C.N D m assign τ with
            | some (.normal, τ') => exec G L C.N D m body τ'
            | _ => none)
    {fn dfr : Nat} {psa : Array Nat} (hps : ps = psa.toList) (hrec : rec = fun s pe => { state := s, pending := pe, fn, tmps := a.tmps, params := psa, assign, body, defers := dfr }) (hny : ∀ y, C.yl = some y → y.n1 ≤ C.B)
    (n : Nat) (x : List FV) (M : Nat → Prop) (W : World) (us : List Value) (h : RJ C a F ps xs st e0 σ' l n1 Dm rec n M W) (hx : (upTo st xs)[n]? = some x) (hus : us.length = x.length)
    (hr : ∀ (j : Nat) (z : FV), x[j]? = some z → ∃ u, us[j]? = some u ∧ RepF (fun _ => False) W z u) :
    ∃ fn tmps assign body, (Instr.yield l us.toArray).run G.P W = .ok (.round l fn tmps assign body) W ∧ RoundIn Fence.wide 0 G.P l fn tmps assign body W (fun e w' => e = .returned (.bool (ans st n)) ∧ ∃ M', RJ C a F ps xs st e0 σ' l n1 Dm rec (n + 1) M' w' ∧ Turn M M' W w') := by
  obtain ⟨⟨My, μn, Fzn, Fyn, σn, h1, h2, h3, h4, h5, h6, h7⟩, hml, hmd, hlt, hbig, hcb, hln⟩ := h
  -- the round is one of those that come
  have hxx : xs[n]? = some x := by
    cases st with
    | none => exact hx
    | some i => simp only [upTo, List.getElem?_take] at hx; split at hx; exact hx; simp at hx
  have hdrop : xs.drop n = x :: xs.drop (n + 1) := by
    have hlen := (List.getElem?_eq_some_iff.1 hxx).1
    rw [List.drop_eq_getElem_cons hlen]
    congr 1
    exact (List.getElem?_eq_some_iff.1 hxx).2
  obtain ⟨hrd, hl⟩ : rounds F C.N ps n (xs.drop n) σn = some (st, e0, σ') ∧ W.heap[l]? = some (.loop (rec .ready none)) := by
    rcases h7 with h7 | ⟨i, k1, k2, _⟩
    · exact h7
    · subst k1; subst k2
      simp only [upTo, List.getElem?_take] at hx
      rw [if_neg (by omega)] at hx
      simp at hx
  rw [hdrop] at hrd
  simp only [rounds] at hrd
  split at hrd
  rotate_left
  · simp at hrd
  rename_i env henv
  have hlW : l < W.heap.size := (Array.getElem?_eq_some_iff.1 hl).1
  have hyl : ∀ y, C.yl = some y → y.n1 ≤ l := fun y hy => Nat.le_trans (hny y hy) hcb
  -- into the round's frame
  have S0 := h3.enter (l := l) hl (fun s hs base hm => (h4 s hs l base hm).2.1 rfl) (fun hm => (h6 l hm).1 rfl)
  have S1 := Sim.bind (C := C.inner My σn a W μn Fzn Fyn l) (ps := ps) (xs := x) (us := us) S0 henv hus hr
  have hplen := bindP_len henv
  have hyd := run_yield (P := G.P) (args := us.toArray) hl (by rw [hrec]; simp [hus, ← hplen, hps])
  rw [hrec] at hyd
  simp only at hyd
  refine ⟨_, _, _, _, hyd, ?_⟩
  clear hyd
  refine roundIn_of_wpIn (F := Fence.wide) trivial ?_
  rw [show Fence.wide.inRound l = FR (C.inner My σn a W μn Fzn Fyn l).rd from rfl, fold_putAll psa us a, ← hps]
  have eact : ({ tmps := (putAll { tmps := a.tmps, defers := [] } ps us).tmps, defers := [] } : Act) = putAll { tmps := a.tmps, defers := [] } ps us := by
    have := (putAll_tmps ps us { tmps := a.tmps, defers := [] }).2
    generalize putAll { tmps := a.tmps, defers := [] } ps us = q at this ⊢
    cases q; simp only at this; subst this; rfl
  rw [eact]
  have hYi : YOk G (C.inner My σn a W μn Fzn Fyn l) := ⟨hY.y⟩
  obtain ⟨τ1, hτ1, hτ2⟩ : ∃ τ1, exec G L C.N D m assign { σn.enter with env := env } = some (.normal, τ1) ∧ F { σn.enter with env := env } = exec G L C.N D m body τ1 := by
    rw [hF] at hrd ⊢
    simp only at hrd ⊢
    cases hq : exec G L C.N D m assign { σn.enter with env := env } with
    | none => rw [hq] at hrd; simp at hrd
    | some p =>
      obtain ⟨e, τ⟩ := p
      cases e with
      | normal => exact ⟨τ, rfl, rfl⟩
      | exit id => rw [hq] at hrd; simp at hrd
      | ret => rw [hq] at hrd; simp at hrd
  rw [hτ2] at hrd
  clear hτ2
  refine hA (C.inner My σn a W μn Fzn Fyn l) _ _ _ _ _ _ _ _ _ 0 rfl hYi S1 hτ1 fun M1 a1 Wa μ1 Fz1 Fy1 hM1 S2 => ?_
  have hM1' : ∀ b, M1 b → My b ∨ W.heap.size ≤ b := hM1.new
  -- what is its own in the round
  generalize hown : (fun b => W.heap.size ≤ b ∨ (∃ s, lk s σn.blk ≠ none ∧ ∃ base, μn s = some (b, base)) ∨ My b) = own
  have own_in : ∀ b, own b ↔ (W.heap.size ≤ b ∨ (∃ s, lk s σn.blk ≠ none ∧ ∃ base, μn s = some (b, base)) ∨ My b) := fun b => by rw [← hown]
  have ownl : ∀ b, own b → b ≠ l ∧ Dm ≠ some b := fun b hb => by
    rcases (own_in b).1 hb with k | ⟨s, hs, base, hm⟩ | k
    · exact ⟨by omega, fun e => by have := hlt b (hmd b e).1; omega⟩
    · exact (h4 s hs b base hm).2
    · exact h6 b k
  have oM1 : ∀ b, M1 b → own b := fun b hb => (own_in b).2 ((hM1' b hb).elim (fun k => .inr (.inr k)) .inl)
  have olive1 : ∀ s, lk s τ1.blk ≠ none → ∀ b base, μ1 s = some (b, base) → own b := fun s hs b base hm => (own_in b).2 (S2.live s hs b base hm).1
  have oz1 : ∀ b, Fz1 b → Fzn b ∨ own b := fun b hb => (S2.z0 b hb).imp id fun k => (own_in b).2 k
  have oy1 : ∀ b, Fy1 b → Fyn b ∨ own b := fun b hb => (S2.y0 b hb).imp id fun k => (own_in b).2 k
  have ny1 : ∀ b, Fy1 b → b ≠ l := fun b hb => (oy1 b hb).elim (fun k => (h5 b k).2.1) (fun k => (ownl b k).1)
  have hWa : ∀ b, b < W.heap.size → ¬ own b → Wa.heap[b]? = W.heap[b]? := fun b hb ho => S2.below.block b hb fun hx => ho ((own_in b).2 (.inr hx))
  have hla : Wa.heap[l]? = some (.loop (rec .ready none)) := (hWa l hlW fun ho => (ownl l ho).1 rfl).trans hl
  refine ⟨_, run_beginRound hla (by rw [hrec]), ?_⟩
  have S3 := S2.re (l := l) (r' := { rec .ready none with state := .busy }) rfl hla (fun hf => ny1 l hf rfl) (fun s hs base hm => (ownl l (olive1 s hs l base hm)).1 rfl) (fun hm => (ownl l (oM1 l hm)).1 rfl) hyl
  generalize hWb : Wa.putObj l (.loop { rec .ready none with state := .busy }) = Wb at S3
  have hlWa : l < Wa.heap.size := (Array.getElem?_eq_some_iff.1 hla).1
  have hlb : Wb.heap[l]? = some (.loop { rec .ready none with state := .busy }) := by rw [← hWb]; exact World.putObj_heap_same hlWa
  have hWab : ∀ b, b ≠ l → Wb.heap[b]? = Wa.heap[b]? := fun b hb => by rw [← hWb]; exact World.putObj_heap_other hb
  have hszb : Wb.heap.size = Wa.heap.size := by rw [← hWb]; simp
  have hWsz : W.heap.size ≤ Wa.heap.size := S2.below.size
  generalize hC2 : Base.re ((C.inner My σn a W μn Fzn Fyn l).withM M1) τ1 Wb μ1 Fz1 Fy1 = C2 at S3
  have c2N : C2.N = C.N := by rw [← hC2]; rfl
  have c2y : C2.yl = C.yl := by rw [← hC2]; rfl
  have c2o : C2.out = fun k => C.get a (k - GH) := by rw [← hC2]; rfl
  have c2r : C2.rd = some l := by rw [← hC2]; rfl
  have c2B : C2.B = Wb.heap.size := by rw [← hC2]; rfl
  have c2w : C2.w0 = Wb := by rw [← hC2]; rfl
  have c2M : C2.M = M1 := by rw [← hC2]; rfl
  have c2X : ∀ b, C2.X b → own b := fun b hb => by
    rw [← hC2] at hb
    rcases hb with ⟨s, hs, base, hm⟩ | k
    · exact olive1 s hs b base hm
    · exact oM1 b k
  have c2z : ∀ b, C2.Fz0 b → Fzn b ∨ own b := fun b hb => by rw [← hC2] at hb; exact oz1 b hb
  have c2yy : ∀ b, C2.Fy0 b → Fyn b ∨ own b := fun b hb => by rw [← hC2] at hb; exact oy1 b hb
  have c2mine : ∀ b, C2.mine b → own b := fun b hb => hb.elim (fun k => (own_in b).2 (.inl (by rw [c2B] at k; omega))) (c2X b)
  have hY2 : YOk G C2 := ⟨fun xs st e => by obtain ⟨zs, y, e1, e2, e3⟩ := hY.y xs st e; exact ⟨zs, y, e1, c2y.trans e2, e3⟩⟩
  clear hC2
  -- the body, and what is asked behind it
  have key : ∀ (e : Ex) (τ2 : St), exec G L C.N D m body τ1 = some (e, τ2) → ∀ (pe : Option Code) (s' : LoopState), s' = (if pe.isNone then .ready else .done) →
      (∀ M2 a2 Wc μ2 Fz2 Fy2, More C2 M2 → Sim (C2.withM M2) τ2 a2 Wc μ2 Fz2 Fy2 →
        Wc.heap[l]? = some (.loop { rec .ready none with state := .busy }) ∧ ∃ M', (∀ b, M b → M' b) ∧ Turn M M' W (Wc.putObj l (.loop (rec s' pe))) ∧
          ∃ Fy3, Sim (C.withM M2) τ2.leave a (Wc.putObj l (.loop (rec s' pe))) μ2 Fz2 Fy3 ∧ More C M2 ∧ (∀ b, M2 b → M' b) ∧ (∀ s, lk s τ2.leave.blk ≠ none → ∀ b base, μ2 s = some (b, base) → M' b ∧ b ≠ l ∧ Dm ≠ some b) ∧ (∀ b, Fy3 b → (b < n1 ∨ M' b) ∧ b ≠ l ∧ Dm ≠ some b) ∧ (∀ b, M2 b → b ≠ l ∧ Dm ≠ some b) ∧
          (∀ D, Dm = some D → M' D ∧ D ≠ l ∧ C.B ≤ D ∧ (Wc.putObj l (.loop (rec s' pe))).heap[D]? = some (.deferred (some []))) ∧ (∀ b, M' b → b < (Wc.putObj l (.loop (rec s' pe))).heap.size) ∧ n1 ≤ (Wc.putObj l (.loop (rec s' pe))).heap.size) := by
    intro e τ2 he pe s' hs' M2 a2 Wc μ2 Fz2 Fy2 hM2 S4
    have hM2' : ∀ b, M2 b → own b := fun b hb => (hM2.new b hb).elim (fun k => oM1 b (c2M ▸ k)) fun k => (own_in b).2 (.inl (by rw [c2B] at k; omega))
    have hbel := S4.below
    have hWc : ∀ b, b < Wb.heap.size → ¬ own b → Wc.heap[b]? = Wb.heap[b]? := fun b hb ho => (hbel.block b (by show b < C2.B; rw [c2B]; exact hb) fun hx => ho (c2X b hx)).trans (by show C2.w0.heap[b]? = _; rw [c2w])
    have hlc : Wc.heap[l]? = some (.loop { rec .ready none with state := .busy }) := (hWc l (by omega) fun ho => (ownl l ho).1 rfl).trans hlb
    refine ⟨hlc, fun b => M b ∨ (W.heap.size ≤ b ∧ b < Wc.heap.size), fun b hb => .inl hb, ?_⟩
    have hszc : Wb.heap.size ≤ Wc.heap.size := by have := hbel.size; rw [show (C2.withM M2).w0 = Wb from c2w] at this; exact this
    have live2 : ∀ s, lk s τ2.blk ≠ none → ∀ b base, μ2 s = some (b, base) → own b := fun s hs b base hm => c2mine b (S4.live s hs b base hm).1
    have z2 : ∀ b, Fz2 b → Fzn b ∨ own b := fun b hb => (S4.z0 b hb).elim (c2z b) fun k => .inr (c2mine b k)
    have yy2 : ∀ b, Fy2 b → Fyn b ∨ own b := fun b hb => (S4.y0 b hb).elim (c2yy b) fun k => .inr (c2mine b k)
    have hne2 : ∀ b, Fyn b ∨ own b → b ≠ l ∧ Dm ≠ some b := fun b hb => hb.elim (fun k => (h5 b k).2) (ownl b)
    have S5 := S4.re (l := l) (r' := rec s' pe) c2r hlc (fun hf => (hne2 l (yy2 l hf)).1 rfl) (fun s hs base hm => (ownl l (live2 s hs l base hm)).1 rfl) (fun hm => (ownl l (hM2' l hm)).1 rfl) (fun y hy => hyl y (c2y ▸ hy))
    generalize hWd : Wc.putObj l (.loop (rec s' pe)) = Wd at S5
    have hWcd : ∀ b, b ≠ l → Wd.heap[b]? = Wc.heap[b]? := fun b hb => by rw [← hWd]; exact World.putObj_heap_other hb
    have hszd : Wd.heap.size = Wc.heap.size := by rw [← hWd]; simp
    have hos : Wd.os = W.os ∧ Wd.tape = W.tape ∧ Wd.output = W.output := by
      have k1 := S2.below; have k2 := hbel
      have o1 := k1.os; have o2 := k1.tape; have o3 := k1.output
      have p1 := k2.os; have p2 := k2.tape; have p3 := k2.output
      rw [show (C2.withM M2).w0 = Wb from c2w, ← hWb] at p1 p2 p3
      rw [← hWd]
      exact ⟨p1.trans o1, p2.trans o2, p3.trans o3⟩
    have hk1 : Keeps W Wa := fun b c ee fr hb => by
      by_cases ho : (C.inner My σn a W μn Fzn Fyn l).X b
      · exact S2.below.kept b c ee fr ho (Array.getElem?_eq_some_iff.1 hb).1 hb
      · exact ⟨c, (S2.below.block b (Array.getElem?_eq_some_iff.1 hb).1 ho).trans hb, rfl⟩
    have hk2 : Keeps Wa Wb := by rw [← hWb]; exact keeps_put hla _
    have hk3 : Keeps Wb Wc := fun b c ee fr hb => by
      have hbl := (Array.getElem?_eq_some_iff.1 hb).1
      by_cases ho : C2.X b
      · exact hbel.kept b c ee fr ho (by show b < C2.B; rw [c2B]; exact hbl) (by rw [show (C2.withM M2).w0 = Wb from c2w]; exact hb)
      · exact ⟨c, (hbel.block b (by show b < C2.B; rw [c2B]; exact hbl) ho).trans (by rw [show (C2.withM M2).w0 = Wb from c2w]; exact hb), rfl⟩
    have hk4 : Keeps Wc Wd := by rw [← hWd]; exact keeps_put hlc _
    have hK := ((hk1.trans hk2).trans hk3).trans hk4
    have hblk : ∀ b, b < W.heap.size → ¬ own b → b ≠ l → Wd.heap[b]? = W.heap[b]? := fun b hb ho hne => (hWcd b hne).trans ((hWc b (by omega) ho).trans ((hWab b hne).trans (hWa b hb ho)))
    have eM : Base.M (Base.re (C2.withM M2) τ2 Wd μ2 Fz2 Fy2) = M2 := rfl
    have hsub : ∀ b, own b → M b ∨ W.heap.size ≤ b := fun b hb => by
      rcases (own_in b).1 hb with k | ⟨s, hs, base, hm⟩ | k
      · exact .inr k
      · exact .inl (h4 s hs b base hm).1
      · exact .inl (h2 b k)
    have S6 := Sim.back h3 S5 (M2 := M2) rfl own (fun b hb => (own_in b).1 hb) c2y c2o (fun b hb => hM2.sub b (c2M ▸ hM1.sub b hb)) hM2' live2 z2 yy2 hcb (fun hf => (h5 l hf).2.1 rfl) hos.1 hos.2.1 hos.2.2 (by omega) hK hblk
    have hmk : ∀ b, (∃ d ∈ a.defers, d.target = Target.collected b) → Fyn b := fun b ⟨d, hd, ed⟩ => by
      obtain ⟨D, e1, e2, _⟩ := h3.defers d hd
      rw [ed] at e1
      cases e1; exact e2
    refine ⟨⟨hos.1, hos.2.1, hos.2.2, by omega, hK, fun b hb hM => hblk b hb (fun ho => (hsub b ho).elim hM (fun k => by omega)) (fun ee => hM (ee ▸ hml)), fun b hb => .inl hb, fun b hb => hb.imp id And.left, fun b hb => ?_⟩, _, S6, ?_, fun b hb => ?_, fun s hs b base hm => ⟨?_, ownl b (live2 s hs b base hm)⟩, fun b hb => ?_, fun b hb => ownl b (hM2' b hb), fun Dd e => ?_, fun b hb => ?_, by omega⟩
    · rcases hb with k | k
      · have := hlt b k; omega
      · omega
    · refine ⟨fun b hb => hM2.sub b (c2M ▸ hM1.sub b (h1.sub b hb)), fun b hb => ?_⟩
      rcases hM2.new b hb with k | k
      · rcases hM1' b (c2M ▸ k) with k | k
        · exact h1.new b k
        · exact .inr (Nat.le_trans h3.big k)
      · refine .inr ?_
        rw [c2B] at k
        have : C.B ≤ W.heap.size := h3.big
        omega
    · exact (hsub b (hM2' b hb)).imp id fun k => ⟨k, by have := (S4.fm b hb).1; exact this⟩
    · exact (hsub b (live2 s hs b base hm)).imp id fun k => ⟨k, (S4.live s hs b base hm).2.1⟩
    · rcases hb with hb | hb
      · refine ⟨?_, hne2 b (yy2 b hb)⟩
        rcases yy2 b hb with k | k
        · exact (h5 b k).1.imp id .inl
        · exact .inr ((hsub b k).imp id fun k => ⟨k, S4.yl b hb⟩)
      · exact ⟨(h5 b (hmk b hb)).1.imp id .inl, (h5 b (hmk b hb)).2⟩
    · obtain ⟨k1, k2, k3, k4⟩ := hmd Dd e
      exact ⟨.inl k1, k2, k3, (hblk Dd (hlt Dd k1) (fun ho => (ownl Dd ho).2 e) k2).trans k4⟩
    · rcases hb with k | k
      · have := hlt b k; omega
      · omega
  cases hb : exec G L C.N D m body τ1 with
  | none => rw [hb] at hrd; simp at hrd
  | some p =>
  obtain ⟨e, τ2⟩ := p
  rw [hb] at hrd
  rw [show FR (C.inner My σn a W μn Fzn Fyn l).rd = FR C2.rd from by rw [c2r]; rfl]
  refine hB C2 _ _ _ _ _ _ _ _ _ 0 c2N hY2 S3 hb fun M2 a2 Wc μ2 Fz2 Fy2 hM2 S4 => ?_
  cases e with
  | normal =>
    simp only at hrd
    obtain ⟨hlc, M', k1, k2, Fy3, k3, k4, k5, k6, k7, k8, k9, k10, k11⟩ := key .normal τ2 hb none .ready rfl M2 a2 Wc μ2 Fz2 Fy2 hM2 S4
    have hend := run_endRound (P := G.P) none hlc
    have erec : ({ { rec .ready none with state := LoopState.busy } with state := if (none : Option Code).isNone then LoopState.ready else .done, pending := none } : Loop) = rec .ready none := by rw [hrec]; rfl
    rw [erec] at hend
    refine ⟨_, _, hend, ?_, M', ⟨⟨M2, μ2, Fz2, Fy3, τ2.leave, k4, k5, k3, k6, k7, k8, .inl ⟨hrd, World.putObj_heap_same (Array.getElem?_eq_some_iff.1 hlc).1⟩⟩, k1 l hml, k9, k10, k11, hcb, hln⟩, k2⟩
    congr 2
    unfold ans
    cases st with
    | none => rfl
    | some i =>
      have := (rounds_idx hrd i rfl).1
      simp; omega
  | exit id =>
    simp only [Option.some.injEq, Prod.mk.injEq] at hrd
    obtain ⟨rfl, rfl, rfl⟩ := hrd
    obtain ⟨hlc, M', k1, k2, Fy3, k3, k4, k5, k6, k7, k8, k9, k10, k11⟩ := key (.exit id) τ2 hb (some (.exit id)) .done rfl M2 a2 Wc μ2 Fz2 Fy2 hM2 S4
    have hend := run_endRound (P := G.P) (some (.exit id)) hlc
    have erec : ({ { rec .ready none with state := LoopState.busy } with state := if (some (Code.exit id)).isNone then LoopState.ready else .done, pending := some (.exit id) } : Loop) = rec .done (some (.exit id)) := by rw [hrec]; rfl
    rw [erec] at hend
    refine ⟨_, _, hend, by simp [ans], M', ⟨⟨M2, μ2, Fz2, Fy3, τ2.leave, k4, k5, k3, k6, k7, k8, .inr ⟨n, rfl, rfl, rfl, World.putObj_heap_same (Array.getElem?_eq_some_iff.1 hlc).1⟩⟩, k1 l hml, k9, k10, k11, hcb, hln⟩, k2⟩
  | ret =>
    simp only [Option.some.injEq, Prod.mk.injEq] at hrd
    obtain ⟨rfl, rfl, rfl⟩ := hrd
    obtain ⟨hlc, M', k1, k2, Fy3, k3, k4, k5, k6, k7, k8, k9, k10, k11⟩ := key .ret τ2 hb (some .ret) .done rfl M2 a2 Wc μ2 Fz2 Fy2 hM2 S4
    have hend := run_endRound (P := G.P) (some .ret) hlc
    have erec : ({ { rec .ready none with state := LoopState.busy } with state := if (some Code.ret).isNone then LoopState.ready else .done, pending := some .ret } : Loop) = rec .done (some .ret) := by rw [hrec]; rfl
    rw [erec] at hend
    refine ⟨_, _, hend, by simp [ans], M', ⟨⟨M2, μ2, Fz2, Fy3, τ2.leave, k4, k5, k3, k6, k7, k8, .inr ⟨n, rfl, rfl, rfl, World.putObj_heap_same (Array.getElem?_eq_some_iff.1 hlc).1⟩⟩, k1 l hml, k9, k10, k11, hcb, hln⟩, k2⟩
end
end Go.Proofs.Ytoafhoihigfllaa.E
