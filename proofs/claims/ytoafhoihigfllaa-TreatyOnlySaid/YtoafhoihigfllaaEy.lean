/-
  The engine, part y: a range over a function: the law of the statement; and of all code. Conditions: none; it is stated of any program and table of its types.
-/
import Derived.Test.YtoafhoihigfllaaEx
import Derived.RangeFuncNested
namespace Go.Proofs.Ytoafhoihigfllaa.E
open Go Go.RowKit
set_option linter.unusedVariables false

theorem enter_run {P : Program} {w : World} {ro : Option Nat} (h : ∀ l, ro = some l → ∃ r, w.heap[l]? = some (.loop r)) (fn : FuncId) (tmps : Array Value) (psa : Array Tmp) (assign body : Code) :
    ∃ (l : Nat) (Dm : Option Nat) (W1 : World) (dfr : Nat), (Instr.enterLoop fn tmps psa assign body ro).run P w = .ok (l, Dm.toList.map fun D => { target := .collected D, args := #[] }) W1 ∧
      W1.heap[l]? = some (.loop { state := .ready, pending := none, fn, tmps, params := psa, assign, body, defers := dfr }) ∧ w.heap.size ≤ l ∧ Below w.heap.size w W1 ∧ (∀ D, Dm = some D → w.heap.size ≤ D ∧ D < W1.heap.size ∧ D ≠ l ∧ W1.heap[D]? = some (.deferred (some []))) ∧ (ro.isSome = true → Dm = none) := by
  cases ro with
  | none =>
    refine ⟨_, some w.heap.size, _, w.heap.size, run_enterLoop_outer fn tmps psa assign body, ?_, by omega, ((Below.refl _ w).alloc (Nat.le_refl _) _).alloc (by simp) _, fun D e => ?_, by simp⟩
    · have := World.alloc_heap_new (w.alloc (.deferred (some []))) (.loop { state := .ready, pending := none, fn, tmps, params := psa, assign, body, defers := w.heap.size })
      rwa [World.size_alloc] at this
    · cases e
      exact ⟨Nat.le_refl _, by simp; omega, by omega, (Below.heap_alloc _ _ _ (by simp)).trans (World.alloc_heap_new w _)⟩
  | some l0 =>
    obtain ⟨r0, hr0⟩ := h l0 rfl
    refine ⟨w.heap.size, none, _, r0.defers, run_enterLoop_inner hr0 fn tmps psa assign body, World.alloc_heap_new w _, Nat.le_refl _, (Below.refl _ w).alloc (Nat.le_refl _) _, by simp, by simp⟩
section
variable {G : Pg} {L : Live} {N : Nat} {D : Drawer} {n : Nat}
theorem Sim.lp_now {C : Base} {σ : St} {a : Act} {w : World} {μ : Mu} {Fz Fy : Nat → Prop} (h : Sim C σ a w μ Fz Fy) (l : Nat) (e : C.rd = some l) : ∃ r, w.heap[l]? = some (.loop r) := by
  obtain ⟨h1, h2, r, h3⟩ := h.lp l e
  exact ⟨r, (h.below.block l h1 h2).trans h3⟩
/-- THE STATEMENT. -/
theorem range_sound (hC : CtxOk G) {g : Operand} {psa : Array Tmp} {assign body : Code} (hA : Sound G L N D n assign) (hB : Sound G L N D n body) : Sound G L N D n (.rangeFunc g psa assign body) := by
  intro C σ σ' e a w μ Fz Fy Q rm hN hY h hr hQ
  subst hN
  simp only [exec] at hr
  split at hr
  rotate_left
  · simp at hr
  rename_i f hf
  split at hr
  rotate_left
  · simp at hr
  rename_i ns ro k caps hfz
  split at hr
  rotate_left
  · simp at hr
  rename_i xs hit
  generalize hF : (fun τ => match exec G L C.N D n assign τ with
            | some (.normal, τ') => exec G L C.N D n body τ'
            | _ => none) = F at hr
  have hv := opd_sound h hf
  obtain ⟨hns, hrep⟩ := frz_sound h 6 hfz hv
  have h0 := h.freezes hns
  -- what the rounds come to
  obtain ⟨st, e0, hrd, hst1, hst2⟩ : ∃ st e0, rounds F C.N psa.toList 0 xs (frees σ ns) = some (st, e0, σ') ∧ (st = none → e = .normal) ∧ (∀ i, st = some i → e = e0 ∧ G.its k (caps.map fun c => (ro, c)) i = true) := by
    split at hr
    · rename_i e1 σ1 h1
      simp only [Option.some.injEq, Prod.mk.injEq] at hr
      obtain ⟨rfl, rfl⟩ := hr
      exact ⟨none, e1, h1, fun _ => rfl, fun i hi => by cases hi⟩
    · rename_i i e1 σ1 h1
      split at hr
      · rename_i hts
        simp only [Option.some.injEq, Prod.mk.injEq] at hr
        obtain ⟨rfl, rfl⟩ := hr
        exact ⟨some i, e1, h1, by simp, fun j hj => by cases hj; exact ⟨rfl, hts⟩⟩
      · simp at hr
    · simp at hr
  have hidx := rounds_idx hrd
  have e1 : Of μ (roF Fz Fy ro) ns = roF (Of μ Fz ns) (Of μ Fy ns) ro := by cases ro <;> rfl
  rw [e1] at hrep
  generalize hfv : a.eval g = vf at hrep hv
  cases hrep with
  | fn _ _ _ vfirst vcaps hs1 hs2 hr1 hr2 =>
  have ef : vfirst = #[] := Array.eq_empty_of_size_eq_zero (by simpa using hs1)
  subst ef
  refine wpIn_rangeFunc ?_
  intro fn hfn
  obtain ⟨l, Dm, W1, dfr, hen, hl1, hwl, hbel, hD, hDr⟩ := enter_run (P := G.P) (ro := C.rd) (fun l e => h0.lp_now l e) fn a.tmps psa assign body
  have hl1s : l < W1.heap.size := (Array.getElem?_eq_some_iff.1 hl1).1
  obtain ⟨hent⟩ : Enters G.P k := (hC.i k _ xs hit).2
  obtain ⟨hen1, hen2, hen3⟩ : _ ∧ _ ∧ _ := ‹_›
  obtain ⟨rec, hrec⟩ : ∃ rec : LoopState → Option Code → Loop, rec = fun s pe => { state := s, pending := pe, fn, tmps := a.tmps, params := psa, assign, body, defers := dfr } := ⟨_, rfl⟩
  have hres : (resolve a.eval (rangeCall g l) 0).run G.P W1 = .ok { target := .fn (.func k) vcaps, args := #[.func (.yield l) #[] #[]] } W1 := by
    simp only [resolve, Deferred.ofValue, hfv]
    simp [Act.eval, go_sem]
  have hinv : (invoke (.fn (.func k) vcaps) #[Value.func (.yield l) #[] #[]]).run G.P W1 = .ok (.enter k (Value.func (.yield l) #[] #[] :: vcaps.toList).toArray) W1 := by
    simp only [invoke, callFunc, Sem.run_bind, run_program, Result.andThen_ok, hen1]
    simp [hen2, hen3]
  refine ⟨l, _, W1, _, W1, k, _, W1, hen, hres, fun _ _ => trivial, hinv, fun hd => by simp [FR, Fence.wide] at hd, ?_⟩
  refine callsIn_FR.2 ?_
  -- what the iterator is told
  have hkW : W1.heap.size ≤ W1.heap.size := Nat.le_refl _
  have hcbn : C.B ≤ W1.heap.size := Nat.le_trans h0.big hbel.size
  let y : Yd := { l := l, n1 := W1.heap.size, J := RJ C a F psa.toList xs st e0 σ' l W1.heap.size Dm rec, stab := fun m M w w' => RJ.stab hcbn m M w w' }
  have hitok : ItOK G.P k (caps.map fun c => (ro, c)) (upTo st xs) st := by
    cases st with
    | none => exact (hC.i k _ xs hit).1
    | some i => exact hC.t k _ xs i hit (hst2 i rfl).2 (by have := (hidx i rfl).2.1; omega)
  have h01 := h0.stays (Stays.of_below h0 hbel)
  have hwl' : ∀ b, (b < w.heap.size) → b ≠ l ∧ Dm ≠ some b := fun b hb => ⟨by omega, fun e => by have := (hD b e).1; omega⟩
  have hzy0 := h0.zy
  refine (hitok W1 (Of μ Fz ns) (Of μ Fy ns) (fun b => (b = l ∨ Dm = some b ∨ (∃ s, lk s (frees σ ns).blk ≠ none ∧ ∃ base, μ s = some (b, base)) ∨ C.M b)) vcaps.toList y hzy0 (fun b hb => h01.yl b hb) (by simpa using hs2) (fun j p hj => ?_) rfl (fun b hb => ?_) ?_ ?_).mono ?_
  · simp only [List.getElem?_map, Option.map_eq_some_iff] at hj
    obtain ⟨c, hc, rfl⟩ := hj
    have hjl : j < vcaps.size := by rw [hs2]; exact (List.getElem?_eq_some_iff.1 hc).1
    have := hr2 j c hc
    rw [Array.getD_eq_getD_getElem?, Array.getElem?_eq_getElem hjl] at this
    refine ⟨vcaps[j], by simp [hjl], this.mono (fun _ x => x) fun b hb => hbel.block b ?_⟩
    cases ro with
    | false => exact h0.yl b (h0.zy b hb)
    | true => exact h0.yl b hb
  · rcases hb with rfl | hb | ⟨s, hs, base, hm⟩ | hb
    · exact ⟨hl1s, fun hf => by have := h0.yl _ hf; omega⟩
    · exact ⟨(hD b hb).2.1, fun hf => by have := h0.yl _ hf; have := (hD b hb).1; omega⟩
    · exact ⟨(h01.live s hs b base hm).2.1, (h0.live s hs b base hm).2.2⟩
    · exact ⟨(h01.fm b hb).1, (h0.fm b hb).2.1⟩
  · -- at the start
    refine ⟨⟨C.M, μ, _, _, frees σ ns, More.refl C, fun b hb => .inr (.inr (.inr hb)), h01, fun s hs b base hm => ⟨.inr (.inr (.inl ⟨s, hs, base, hm⟩)), hwl' b (h0.live s hs b base hm).2.1⟩, fun b hb => ⟨.inl (h01.yl b hb), hwl' b (h0.yl b hb)⟩, fun b hb => hwl' b (h0.fm b hb).1, .inl ⟨by simpa using hrd, by rw [hl1, hrec]⟩⟩, .inl rfl, fun Dd e => ?_, fun b hb => ?_, Nat.le_refl _, Nat.le_trans h0.big hwl, hl1s⟩
    · obtain ⟨k1, k2, k3, k4⟩ := hD Dd e
      exact ⟨.inr (.inl e), k3, Nat.le_trans h0.big k1, k4⟩
    · rcases hb with rfl | hb | ⟨s, hs, base, hm⟩ | hb
      · exact hl1s
      · exact (hD b hb).2.1
      · exact (h01.live s hs b base hm).2.1
      · exact (h01.fm b hb).1
  · intro m x M W us hJ hx hus hru
    exact round_sound hA hB hY hF.symm rfl hrec (fun y hy => (h0.yd y hy).2.2.1) m x M W us hJ hx hus hru
  · -- behind the iterator
    rintro ex W2 ⟨⟨v, rfl⟩, M2, hJ⟩
    have hJ' : RJ C a F psa.toList xs st e0 σ' l W1.heap.size Dm rec (upTo st xs).length M2 W2 := hJ
    obtain ⟨⟨My, μn, Fzn, Fyn, σn, j1, j2, j3, j4, j5, j6, j7⟩, hml, hmd, hlt, hbig, hcb, hln⟩ := hJ'
    obtain ⟨jump, hl2, hσ, hjump⟩ : ∃ jump : Option Code, W2.heap[l]? = some (.loop (rec (if jump.isNone then .ready else .done) jump)) ∧ σn = σ' ∧ (jump = none ∧ e = .normal ∨ (e ≠ .normal ∧ jump = some e.code)) := by
      cases st with
      | none =>
        rcases j7 with ⟨k1, k2⟩ | ⟨i, k1, _⟩
        · simp only [upTo, List.drop_length, rounds, Option.some.injEq, Prod.mk.injEq] at k1
          exact ⟨none, k2, k1.2.2, .inl ⟨rfl, hst1 rfl⟩⟩
        · cases k1
      | some i =>
        have hi := hidx i rfl
        have hlen : (upTo (some i) xs).length = i + 1 := by rw [upTo, List.length_take]; omega
        rcases j7 with ⟨k1, k2⟩ | ⟨i', k1, k2, k3, k4⟩
        · have := (rounds_idx k1 i rfl).1
          omega
        · exact ⟨some e0.code, k4, k3, .inr ⟨(hst2 i rfl).1 ▸ hi.2.2, by rw [(hst2 i rfl).1]⟩⟩
    subst hσ
    have hend := run_endLoop (P := G.P) hl2 (by rw [hrec]; cases jump <;> simp)
    rw [show (rec (if jump.isNone = true then LoopState.ready else LoopState.done) jump).pending = jump from by rw [hrec]] at hend
    refine ⟨jump, _, hend, ?_⟩
    have S1 := j3.putLoop hl2 hcb (fun hf => (j5 l hf).2.1 rfl) (fun s hs base hm => (j4 s hs l base hm).2.1 rfl) (fun hm => (j6 l hm).1 rfl) (.loop { rec (if jump.isNone then .ready else .done) jump with state := .exhausted, pending := jump })
    generalize hW3 : W2.putObj l (.loop { rec (if jump.isNone then .ready else .done) jump with state := .exhausted, pending := jump }) = W3 at S1
    have hD3 : ∀ D, Dm = some D → W3.heap[D]? = some (.deferred (some [])) ∧ D < W3.heap.size := fun Dd e => by
      obtain ⟨k1, k2, k3, k4⟩ := hmd Dd e
      rw [← hW3]
      exact ⟨(World.putObj_heap_other k2).trans k4, by simpa using hlt Dd k1⟩
    have S2 : Sim (C.withM My) σn { a with defers := (Dm.toList.map fun D => { target := .collected D, args := #[] }) ++ a.defers } W3 μn Fzn (fun b => Fyn b ∨ Dm = some b) := by
      have S3 := S1.fix (Fz' := Fzn) (Fy' := fun b => Fyn b ∨ Dm = some b) (fun _ x => x) (fun _ x => .inl x) (fun b hb => .inl (S1.zy b hb)) (fun b hb => hb.elim (S1.yl b) fun e => (hD3 b e).2) S1.z0 (fun b hb => hb.elim (S1.y0 b) fun e => .inr (.inl (hmd b e).2.2.1)) (fun s hs b base hm => fun hb => hb.elim (S1.live s hs b base hm).2.2 fun e => (j4 s hs b base hm).2.2 e) (fun b hb hf => hf.elim (S1.fm b hb).2.1 fun e => (j6 b hb).2 e)
      refine { S3 with defers := fun d hd => ?_, dist := ?_ }
      · rcases List.mem_append.1 hd with hd | hd
        · obtain ⟨Dd, hDd, rfl⟩ := List.mem_map.1 hd
          have e : Dm = some Dd := by simpa using hDd
          exact ⟨Dd, rfl, .inr e, fun _ => .inl (hmd Dd e).2.2.1, (hD3 Dd e).1⟩
        · exact S3.defers d hd
      · refine List.pairwise_append.2 ⟨?_, S3.dist, fun d1 hd1 d2 hd2 => ?_⟩
        · cases Dm <;> simp
        · obtain ⟨Dd, hDd, rfl⟩ := List.mem_map.1 hd1
          have e : Dm = some Dd := by simpa using hDd
          obtain ⟨D2, k1, k2, _⟩ := j3.defers d2 hd2
          rw [k1]
          intro ee
          cases ee
          exact (j5 Dd k2).2.2 e
    have hq := hQ My _ _ _ _ _ j1 S2
    rcases hjump with ⟨rfl, rfl⟩ | ⟨hne, rfl⟩
    · exact hq
    · cases e with
      | normal => exact absurd rfl hne
      | exit id => exact wpIn_exit hq
      | ret => exact wpIn_ret hq
/-- How regions that draw their order are run, by the engine, is what they do. -/
def DrawOk (G : Pg) (N : Nat) (D : Drawer) : Prop :=
  ∀ (C : Base) (ro : Option Nat) (rm : Nat) (ops : Array Oper) (id : Nat) (σ σ' : St) (a : Act) (w : World) (μ : Mu) (Fz Fy : Nat → Prop) (Q : Exit → Act → World → Prop), C.N = N → YOk G C → D id ops.toList σ = some σ' → Sim C σ a w μ Fz Fy →
    (∀ M' a' w' μ' Fz' Fy', More C M' → Sim (C.withM M') σ' a' w' μ' Fz' Fy' → Q .normal a' w') → (Code.region id ops true).wpIn (FR ro) rm G.P Q a w
theorem exec_sound (hT : TOk G) (hC : CtxOk G) (hD : DrawOk G N D) : ∀ (c : Code), Sound G L N D n c := by
  intro c
  induction c with
  | skip =>
    intro C σ σ' e a w μ Fz Fy Q rm hN hY h hr hQ
    simp only [exec, Option.some.injEq, Prod.mk.injEq] at hr
    obtain ⟨rfl, rfl⟩ := hr
    exact wpIn_skip (hQ C.M _ _ _ _ _ (More.refl C) h)
  | region id ops draw =>
    intro C σ σ' e a w μ Fz Fy Q rm hN hY h hr hQ
    subst hN
    simp only [exec] at hr
    split at hr
    · rename_i σ1 h1
      simp only [Option.some.injEq, Prod.mk.injEq] at hr
      obtain ⟨rfl, rfl⟩ := hr
      cases draw with
      | false =>
        simp only [Bool.false_eq_true, if_false] at h1
        exact wpIn_region_list (runOps_sound hT hC _ hY h h1 fun M' a' w' μ' Fz' Fy' hM h' => hQ M' _ _ _ _ _ hM (h'.fin (kof L id)))
      | true =>
        simp only [if_true] at h1
        exact hD C C.rd rm ops id σ σ1 a w μ Fz Fy Q rfl hY h1 h fun M' a' w' μ' Fz' Fy' hM h' => hQ M' _ _ _ _ _ hM (h'.fin (kof L id))
    · simp at hr
  | seq x y ihx ihy =>
    intro C σ σ' e a w μ Fz Fy Q rm hN hY h hr hQ
    simp only [exec] at hr
    split at hr
    · rename_i σ1 h1
      exact wpIn_seq (ihx C _ _ _ _ _ _ _ _ _ rm hN hY h h1 fun M' a' w' μ' Fz' Fy' hM h' => ihy (C.withM M') _ _ _ _ _ _ _ _ _ rm hN (hY.withM M') h' hr fun M'' a' w' μ' Fz' Fy' hM' h' => hQ M'' _ _ _ _ _ (hM.trans hM') h')
    · rename_i h1
      have hne : e ≠ .normal := fun he => by subst he; exact h1 _ hr
      refine wpIn_seq (ihx C _ _ _ _ _ _ _ _ _ rm hN hY h hr fun M' a' w' μ' Fz' Fy' hM h' => ?_)
      have := hQ M' _ _ _ _ _ hM h'
      cases e with
      | normal => exact absurd rfl hne
      | exit id => exact this
      | ret => exact this
  | cond c x y ihx ihy =>
    intro C σ σ' e a w μ Fz Fy Q rm hN hY h hr hQ
    simp only [exec] at hr
    split at hr
    · rename_i q b hb
      have hv := opd_sound h hb
      have hc : a.eval c = .bool b := by
        generalize a.eval c = u at hv ⊢
        cases hv with
        | fv _ _ _ hv => cases hv; rfl
      cases b with
      | true => exact wpIn_cond_true hc (ihx C _ _ _ _ _ _ _ _ _ rm hN hY h (by simpa using hr) hQ)
      | false => exact wpIn_cond_false hc (ihy C _ _ _ _ _ _ _ _ _ rm hN hY h (by simpa using hr) hQ)
    · simp at hr
  | block id c ih =>
    intro C σ σ' e a w μ Fz Fy Q rm hN hY h hr hQ
    simp only [exec] at hr
    split at hr
    · rename_i j σ1 h1
      refine wpIn_block (ih C _ _ _ _ _ _ _ _ _ rm hN hY h h1 fun M' a' w' μ' Fz' Fy' hM h' => ?_)
      split at hr
      · rename_i hj
        simp only [Option.some.injEq, Prod.mk.injEq] at hr
        obtain ⟨rfl, rfl⟩ := hr
        simp only [Ex.toExit, Exit.inBlock, hj, if_true]
        exact hQ M' _ _ _ _ _ hM h'
      · rename_i hj
        simp only [Option.some.injEq, Prod.mk.injEq] at hr
        obtain ⟨rfl, rfl⟩ := hr
        simp only [Ex.toExit, Exit.inBlock, hj, if_false]
        exact hQ M' _ _ _ _ _ hM h'
    · rename_i h1
      refine wpIn_block (ih C _ _ _ _ _ _ _ _ _ rm hN hY h hr fun M' a' w' μ' Fz' Fy' hM h' => ?_)
      have := hQ M' _ _ _ _ _ hM h'
      cases e with
      | normal => exact this
      | exit j => exact absurd hr (h1 j σ')
      | ret => exact this
  | loop c ih =>
    intro C σ σ' e a w μ Fz Fy Q rm hN hY h hr hQ
    simp only [exec] at hr
    refine wpIn_loop_rounds n ?_
    have key : ∀ m, ∀ {C' : Base} {σ : St} {a : Act} {w : World} {μ : Mu} {Fz Fy : Nat → Prop}, C'.rd = C.rd → C'.N = N → YOk G C' → (∀ M' a' w' μ' Fz' Fy', More C' M' → Sim (C'.withM M') σ' a' w' μ' Fz' Fy' → Q e.toExit a' w') → Sim C' σ a w μ Fz Fy → iter (exec G L N D n c) m σ = some (e, σ') → Code.roundsIn (FR C.rd) rm G.P c Q m a w := by
      intro m
      induction m with
      | zero => intro C' σ a w μ Fz Fy _ _ _ _ _ hi; simp [iter] at hi
      | succ m ihm =>
        intro C' σ a w μ Fz Fy e1 e2 hY' hQ' h hi
        simp only [iter] at hi
        rw [roundsIn_succ]
        rw [← e1]
        split at hi
        · rename_i σ1 h1
          refine ih C' _ _ _ _ _ _ _ _ _ rm e2 hY' h h1 fun M' a' w' μ' Fz' Fy' hM h' => ?_
          show Code.roundsIn (FR C'.rd) rm G.P c Q m a' w'
          rw [e1]
          exact ihm (C' := C'.withM M') e1 e2 (hY'.withM M') (fun M'' a' w' μ' Fz' Fy' hM' h' => hQ' M'' _ _ _ _ _ (hM.trans hM') h') h' hi
        · rename_i h1
          have hne : e ≠ .normal := fun he => by subst he; exact h1 _ hi
          refine ih C' _ _ _ _ _ _ _ _ _ rm e2 hY' h hi fun M' a' w' μ' Fz' Fy' hM h' => ?_
          have := hQ' M' _ _ _ _ _ hM h'
          cases e with
          | normal => exact absurd rfl hne
          | exit id => exact this
          | ret => exact this
    exact key n rfl hN hY hQ h hr
  | exit id =>
    intro C σ σ' e a w μ Fz Fy Q rm hN hY h hr hQ
    simp only [exec, Option.some.injEq, Prod.mk.injEq] at hr
    obtain ⟨rfl, rfl⟩ := hr
    exact wpIn_exit (hQ C.M _ _ _ _ _ (More.refl C) h)
  | ret =>
    intro C σ σ' e a w μ Fz Fy Q rm hN hY h hr hQ
    simp only [exec, Option.some.injEq, Prod.mk.injEq] at hr
    obtain ⟨rfl, rfl⟩ := hr
    exact wpIn_ret (hQ C.M _ _ _ _ _ (More.refl C) h)
  | scope c ih =>
    intro C σ σ' e a w μ Fz Fy Q rm hN hY h hr hQ
    simp only [exec] at hr
    refine wpIn_scope_straight (ih C _ _ _ _ _ _ _ _ _ rm hN hY h hr fun M' a' w' μ' Fz' Fy' hM h' => ?_)
    have := hQ M' _ _ _ _ _ hM h'
    cases e <;> exact this
  | label l =>
    intro C σ σ' e a w μ Fz Fy Q rm hN hY h hr hQ
    simp only [exec, Option.some.injEq, Prod.mk.injEq] at hr
    obtain ⟨rfl, rfl⟩ := hr
    exact wpIn_label (hQ C.M _ _ _ _ _ (More.refl C) h)
  | rangeFunc g psa assign body ihA ihB => exact range_sound hC ihA ihB
  | _ => intro C σ σ' e a w μ Fz Fy Q rm hN hY h hr hQ; simp [exec] at hr
end
end Go.Proofs.Ytoafhoihigfllaa.E
