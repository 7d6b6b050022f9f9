/-
  The engine, part 3b: a call whose callee works in the caller's memory. Conditions: none; it is stated of any program.
-/
import Derived.Test.YtoafhoihigfllaaGa
namespace Go.Proofs.Ytoafhoihigfllaa.E
open Go Go.RowKit
set_option linter.unusedVariables false

def fup (s : Nat) : Option Nat := some (s + 100000000)
def idxOf : Nat → List Nat → Nat → Option Nat
  | _, [], _ => none
  | i, x :: r, s => if x = s then some i else idxOf (i + 1) r s
def newN (d j : Nat) : Nat := 2000000 + 16 * d + j
def fdn (d : Nat) (l : List Nat) (s : Nat) : Option Nat :=
  if hi s = true then (if s = 100099999 ∨ (102000000 + 16 * d ≤ s ∧ s < 102000016 + 16 * d) then none else some (s - 100000000))
  else match idxOf 0 l s with
    | some j => if j < 16 then some (newN d j) else none
    | none => none
def surv : List (Nat × Blk) → List Nat
  | [] => []
  | (s, _) :: r => if hi s = true then surv r else s :: surv r
def parEnv : Nat → List V → List (Nat × V)
  | _, [] => []
  | k, v :: r => (k, v) :: parEnv (k + 1) r
/-- Into the callee's frame. -/
def St.enterI (σ : St) (args : List V) : St :=
  { env := parEnv 0 (args.map (mapV (onLive σ fup) 6)) ++ upEnv (σ.mapN fup).env, blk := (σ.mapN fup).blk, tr := σ.tr }
/-- Out of it: the results, named by the slot. -/
def St.leaveI (σ : St) (d : Nat) : St := (σ.mapN (fdn d (surv σ.blk))).leave
theorem idxOf_inj : ∀ {l : List Nat} {i s s' j : Nat}, idxOf i l s = some j → idxOf i l s' = some j → s = s' ∧ i ≤ j
  | [], _, _, _, _, h, _ => by simp [idxOf] at h
  | x :: r, i, s, s', j, h, h' => by
    have ge : ∀ {l : List Nat} {i s j : Nat}, idxOf i l s = some j → i ≤ j := by
      intro l
      induction l with
      | nil => intro i s j h; simp [idxOf] at h
      | cons y r ih =>
        intro i s j h
        simp only [idxOf] at h
        split at h
        · simp only [Option.some.injEq] at h; omega
        · have := ih h; omega
    simp only [idxOf] at h h'
    split at h
    · rename_i e
      simp only [Option.some.injEq] at h
      split at h'
      · rename_i e'; exact ⟨e.symm.trans e', by omega⟩
      · have := ge h'; omega
    · split at h'
      · simp only [Option.some.injEq] at h'
        have := ge h; omega
      · obtain ⟨h1, h2⟩ := idxOf_inj h h'
        exact ⟨h1, by omega⟩
theorem fup_inj (s s' t : Nat) (h : fup s = some t) (h' : fup s' = some t) : s = s' := by
  simp only [fup, Option.some.injEq] at h h'; omega
theorem fup_YN (s : Nat) : fup s ≠ some YN := by
  simp only [fup, ne_eq, Option.some.injEq, YN]; omega
theorem fdn_inj {d : Nat} {l : List Nat} (s s' t : Nat) (h : fdn d l s = some t) (h' : fdn d l s' = some t) : s = s' := by
  unfold fdn at h h'
  split at h
  · rename_i h1
    simp only [hi_eq, decide_eq_true_eq] at h1
    split at h
    · cases h
    · rename_i h2
      simp only [Option.some.injEq] at h
      split at h'
      · rename_i h3
        simp only [hi_eq, decide_eq_true_eq] at h3
        split at h'
        · cases h'
        · simp only [Option.some.injEq] at h'; omega
      · split at h'
        · split at h'
          · simp only [Option.some.injEq, newN] at h'; omega
          · cases h'
        · cases h'
  · split at h
    · rename_i j hj
      split at h
      · rename_i hj16
        simp only [Option.some.injEq, newN] at h
        split at h'
        · rename_i h3
          simp only [hi_eq, decide_eq_true_eq] at h3
          split at h'
          · cases h'
          · simp only [Option.some.injEq] at h'; omega
        · split at h'
          · rename_i j' hj'
            split at h'
            · simp only [Option.some.injEq, newN] at h'
              have : j = j' := by omega
              subst this
              exact (idxOf_inj hj hj').1
            · cases h'
          · cases h'
      · cases h
    · cases h
theorem fdn_YN {d : Nat} {l : List Nat} (s : Nat) : fdn d l s ≠ some YN := by
  intro h
  unfold fdn at h
  split at h
  · rename_i h1
    simp only [hi_eq, decide_eq_true_eq] at h1
    split at h
    · cases h
    · simp only [Option.some.injEq, YN] at h; omega
  · split at h
    · split at h
      · simp only [Option.some.injEq, newN, YN] at h; omega
      · cases h
    · cases h
theorem lk_parEnv : ∀ (vs : List V) (k j : Nat), lk j (parEnv k vs) = if k ≤ j then vs[j - k]? else none
  | [], k, j => by simp [parEnv, lk]
  | v :: r, k, j => by
    simp only [parEnv, lk]
    by_cases h : j = k
    · subst h; simp
    · rw [if_neg h, lk_parEnv r (k + 1) j]
      by_cases h2 : k ≤ j
      · rw [if_pos h2, if_pos (by omega)]
        obtain ⟨m, hm⟩ : ∃ m, j - k = m + 1 := ⟨j - k - 1, by omega⟩
        rw [hm, show j - (k + 1) = m from by omega]
        simp
      · rw [if_neg h2, if_neg (by omega)]
section
variable {C : Base} {σ : St} {a : Act} {w : World} {μ : Mu} {Fz Fy : Nat → Prop}
/-- The callee's base. -/
def Base.callee (C : Base) (N : Nat) (σ : St) (a : Act) (w : World) (μ : Mu) (Fz Fy : Nat → Prop) : Base :=
  { N := N, B := w.heap.size, w0 := w, Fz0 := Fz, X := fun b => (∃ s, lk s σ.blk ≠ none ∧ ∃ base, μ s = some (b, base)) ∨ C.M b, Fy0 := Fy, M := C.M, yl := C.yl, out := fun k => C.get a (k - GH) }
theorem Sim.enterI (h : Sim C σ a w μ Fz Fy) {N : Nat} (hN : N ≤ 90000) {args : List V} {us : List Value} (hl : us.length = args.length) (hn : args.length ≤ N)
    (hr : ∀ (j : Nat) (y : V), args[j]? = some y → ∃ u, us[j]? = some u ∧ RepV μ (shs σ) Fz Fy w y u) :
    ∃ μ', Sim (C.callee N σ a w μ Fz Fy) (σ.enterI args) { tmps := us.toArray ++ Array.replicate (N - us.toArray.size) undef, defers := [] } w μ' Fz Fy := by
  obtain ⟨μ', hm, hrep, hwho⟩ := h.mapN fup_inj fup_YN
  refine ⟨μ', ?_⟩
  refine { defers := fun d hd => by simp at hd, dist := .nil, size := ?_, small := hN, env := fun k v hk => ⟨trivial, ?_⟩, blk := hm.blk, live := fun s hs b base hmm => ?_, inj := hm.inj, zy := h.zy, yl := h.yl, z0 := fun b hb => .inl hb, y0 := fun b hb => .inl hb, below := BelowX.refl _ (Nat.le_refl _), big := Nat.le_refl _, fm := hm.fm, yd := fun y hy => ?_, mm := fun b hb => .inr (.inr hb), lp := fun _ e => (by cases e) }
  · simp [Base.callee, hl]; omega
  · rcases lk_append hk with hk | hk
    · rw [lk_parEnv] at hk
      simp only [Nat.zero_le, if_true, Nat.sub_zero, List.getElem?_map, Option.map_eq_some_iff] at hk
      obtain ⟨y, hy, rfl⟩ := hk
      have hkl : k < args.length := (List.getElem?_eq_some_iff.1 hy).1
      obtain ⟨u, hu, hru⟩ := hr k y hy
      have e : (C.callee N σ a w μ Fz Fy).get { tmps := us.toArray ++ Array.replicate (N - us.toArray.size) undef, defers := [] } k = u := by
        have hku : k < us.length := by omega
        rw [List.getElem?_eq_getElem hku] at hu
        simp only [Option.some.injEq] at hu
        rw [Base.get, if_pos (by unfold GH; omega)]
        simp [Array.getD_eq_getD_getElem?, Array.getElem?_append, hku, hu]
      rw [e]
      exact hrep 6 y u hru
    · obtain ⟨h1, h2⟩ := lk_up hk
      have := (hm.env (k - GH) v h2).2
      rw [show (C.callee N σ a w μ Fz Fy).get { tmps := us.toArray ++ Array.replicate (N - us.toArray.size) undef, defers := [] } k = C.get a (k - GH) from by rw [Base.get, if_neg (by omega)]; rfl]
      exact this
  · obtain ⟨s', hs', _, e⟩ := hwho s hs
    exact ⟨.inr (.inl ⟨s', hs', base, e ▸ hmm⟩), (hm.live s hs b base hmm).2⟩
  · obtain ⟨y1, y2, y3, y4, y5⟩ := hm.yd y hy
    refine ⟨y1, y2, Nat.le_trans y3 h.big, fun b hlt hb => ?_, fun b hb => .inr (.inr hb)⟩
    rcases hb with ⟨s, hs, base, hmm⟩ | hb
    · rcases (h.live s hs b base hmm).1 with h1 | h1
      · exact absurd h1 (by omega)
      · exact y4 b hlt h1
    · exact hb
theorem RepV.shut {sh : Mu} {w' : World} {own : Nat → Prop} (hw : Shut own w w') {x : V} {v : Value} (h : RepV μ sh Fz Fy w x v) : RepV μ sh Fz Fy w' x v := by
  have hroom : ∀ b o n, Room w b o n → Room w' b o n := fun b o n ⟨c, e, hc, hn⟩ => by
    rcases hw.blk b with k | ⟨_, ds, k⟩
    · exact ⟨c, e, k.trans hc, hn⟩
    · rw [k] at hc; cases hc
  induction h with
  | yv l hm => exact .yv l hm
  | top v => exact .top v
  | fv ro x v h => exact .fv ro x v (h.cells_mono (fun _ x => x) hw.cell)
  | ownx s off len v h => exact .ownx s off len v h
  | own s off len ad cap sz n hs hn hc hm => exact .own s off len ad cap sz n hs hn hc (hm.imp id fun ⟨b, base, e1, e2, e3⟩ => ⟨b, base, e1, e2, hroom _ _ _ e3⟩)
  | ptrx s off v h => exact .ptrx s off v h
  | ptr s off b base hm => exact .ptr s off b base hm
  | pelx s i j v h => exact .pelx s i j v h
  | pel s i j sz n b base hs hi hm => exact .pel s i j sz n b base hs hi hm
  | agg cells vs hs hr ih => exact .agg cells vs hs ih
  | fn f first captured vf vc hs hs' hr hr' ih ih' => exact .fn f first captured vf vc hs hs' ih ih'
  | mapx s v h => exact .mapx s v h
  | map s b base hm => exact .map s b base hm
  | tup cells vs hs hr ih => exact .tup cells vs hs ih
theorem RepB.shut {sh : Mu} {w' : World} {own : Nat → Prop} (hw : Shut own w w') {s : Nat} {x : Blk} (h : RepB μ sh Fz Fy w s x) : RepB μ sh Fz Fy w' s x := by
  have hcells : ∀ (b : Nat) (o : Obj), w.heap[b]? = some o → (∀ ds, o ≠ .deferred ds) → w'.heap[b]? = some o := fun b o hb hne => by
    rcases hw.blk b with k | ⟨_, ds, k⟩
    · exact k.trans hb
    · rw [k] at hb; simp only [Option.some.injEq] at hb; exact absurd hb.symm (hne ds)
  cases h with
  | nil sz => exact .nil sz
  | arr sz xs b base c e hm hh hc hsz hr => exact .arr sz xs b base c e hm (hcells _ _ hh (by simp)) hc hsz fun i x j y h1 h2 => (hr i x j y h1 h2).cells_mono (fun _ x => x) hw.cell
  | box cells b c e hm hh hc hr => exact .box cells b c e hm (hcells _ _ hh (by simp)) hc fun j y hj => (hr j y hj).shut hw
  | mp es b c k hm hh hc hr =>
    refine .mp es b c k hm (hcells _ _ hh (by simp)) hc fun j y hj => ?_
    obtain ⟨m, h1, h2, h3⟩ := hr j y hj
    exact ⟨m, h1, h2.cells_mono (fun _ x => x) hw.cell, h3.cells_mono (fun _ x => x) hw.cell⟩
/-- Marks of the frame are taken. -/
theorem Sim.shut {w' : World} (h : Sim C σ a w μ Fz Fy) (hw : Shut (fun b => C.mine b ∧ Fy b) w w') : Sim C σ { a with defers := [] } w' μ Fz Fy := by
  have hcells : ∀ (b : Nat) (o : Obj), w.heap[b]? = some o → (∀ ds, o ≠ .deferred ds) → w'.heap[b]? = some o := fun b o hb hne => by
    rcases hw.blk b with k | ⟨_, ds, k⟩
    · exact k.trans hb
    · rw [k] at hb; simp only [Option.some.injEq] at hb; exact absurd hb.symm (hne ds)
  have hb := h.below
  have hbel : BelowX C w' := by
    refine ⟨hw.os.trans hb.os, hw.tape.trans hb.tape, hw.output.trans hb.output, by rw [hw.size]; exact hb.size, fun k hk hx => ?_, fun k c e fr hx hk hc => ?_⟩
    · rcases hw.blk k with k1 | ⟨⟨k1, _⟩, _⟩
      · exact k1.trans (hb.block k hk hx)
      · rcases k1 with k1 | k1
        · omega
        · exact absurd k1 hx
    · obtain ⟨c', e1, e2⟩ := hb.kept k c e fr hx hk hc
      exact ⟨c', hcells _ _ e1 (by simp), e2⟩
  have hsame : ∀ b, C.M b → w'.heap[b]? = w.heap[b]? := fun b hM => (hw.blk b).resolve_right fun ⟨⟨_, k⟩, _⟩ => (h.fm b hM).2.1 k
  have hkp : Keeps w w' := fun b c e fr hb => ⟨c, hcells b _ hb (by simp), rfl⟩
  exact { defers := fun d hd => by simp at hd, dist := .nil, size := h.size, small := h.small, env := fun k v hk => ⟨trivial, ((h.env k v hk).2).shut hw⟩, blk := fun s b hb => (h.blk s b hb).shut hw, live := fun s hs b base hm => by rw [hw.size]; exact h.live s hs b base hm, inj := h.inj, zy := h.zy, yl := fun b hb => by rw [hw.size]; exact h.yl b hb, z0 := h.z0, y0 := h.y0, below := hbel, big := by rw [hw.size]; exact h.big, fm := fun b hb => by rw [hw.size]; exact h.fm b hb, yd := h.yd_stays hkp hbel (by rw [hw.size]; exact Nat.le_refl _) hsame, mm := h.mm, lp := h.lp }
/-- Back in the caller's frame. -/
theorem Sim.backI (h : Sim C σ a w μ Fz Fy) {N : Nat} {M1 : Nat → Prop} {τ : St} {a1 : Act} {w1 : World} {μ1 : Mu} {Fz1 Fy1 : Nat → Prop} (hM1 : More (C.callee N σ a w μ Fz Fy) M1) (S : Sim ((C.callee N σ a w μ Fz Fy).withM M1) τ a1 w1 μ1 Fz1 Fy1) :
    Sim (C.withM M1) τ.leave a w1 μ1 Fz1 (fun b => Fy1 b ∨ ∃ d ∈ a.defers, d.target = .collected b) ∧ More C M1 := by
  have hbel := S.below
  have hsz : w.heap.size ≤ w1.heap.size := hbel.size
  have hk : Keeps w w1 := fun b c e fr hb => by
    have hbl := (Array.getElem?_eq_some_iff.1 hb).1
    by_cases ho : ((C.callee N σ a w μ Fz Fy).withM M1).X b
    · exact hbel.kept b c e fr ho hbl hb
    · exact ⟨c, (hbel.block b hbl ho).trans hb, rfl⟩
  have h' : Sim (C.withM C.M) σ a w μ Fz Fy := h
  refine ⟨Sim.back (l := w.heap.size) h' S (M2 := M1) rfl ((C.callee N σ a w μ Fz Fy).withM M1).mine (fun b hb => hb) rfl rfl hM1.sub (fun b hb => (hM1.new b hb).elim (fun k => .inr (.inr k)) .inl) (fun s hs b base hm => (S.live s hs b base hm).1) S.z0 S.y0 h.big (fun hf => absurd (h.yl _ hf) (by omega)) hbel.os hbel.tape hbel.output hsz hk (fun b hb ho _ => hbel.block b hb fun hx => ho (.inr hx)), hM1.sub, fun b hb => (hM1.new b hb).imp id fun k => Nat.le_trans h.big k⟩
/-- A CALL, ITS CALLEE RUN IN THE CALLER'S MEMORY. -/
theorem inl_of_exec {G : Pg} (hT : TOk G) (hC : CtxOk G) (hyl : G.yl = none) {k : FuncId} {fn : Func} {c : Code} (hf : G.P.funcs[k]? = some fn) (hb : fn.body = some c) {L : Live} {D : Drawer} (hD : DrawOk G fn.ntmps D) (n d : Nat) {σ : St}
    {args : List V} (hargs : args.length ≤ fn.ntmps ∧ fn.ntmps ≤ 90000) {e : Ex} {σ1 : St} (hx : exec G L fn.ntmps D n c (σ.enterI args) = some (e, σ1)) (he : e = .normal ∨ e = .ret) {vs : List V} (hs : slotsA G σ1 fn.results.toList = some vs) :
    InlOK G.P k σ args (σ1.leaveI d) (vs.map (mapV (onLive σ1 (fdn d (surv σ1.blk))) 6)) := by
  intro C a w μ Fz Fy us h hl hr
  refine calls_of_marks hf hb ?_
  obtain ⟨μ0, hinit⟩ := h.enterI hargs.2 hl hargs.1 hr
  refine exec_sound hT hC hD c (C.callee fn.ntmps σ a w μ Fz Fy) _ _ _ _ _ _ _ _ _ 0 rfl (yok_none hyl) hinit hx fun M' a' w' μ' Fz' Fy' hM h' => ?_
  have hq : LeavesInM (FR none) 0 G.P fn a'.tmps (fun e w' => ∃ rs M' μ' Fz' Fy', e = .returned (pack rs) ∧ More C M' ∧ Sim (C.withM M') (σ1.leaveI d) a w' μ' Fz' Fy' ∧ rs.length = (vs.map (mapV (onLive σ1 (fdn d (surv σ1.blk))) 6)).length ∧ ∀ (j : Nat) (y : V), (vs.map (mapV (onLive σ1 (fdn d (surv σ1.blk))) 6))[j]? = some y → ∃ u, rs[j]? = some u ∧ RepV μ' (shs (σ1.leaveI d)) Fz' Fy' w' y u) a'.defers .returning w' := by
    refine leaves_marks (own := fun b => ((C.callee fn.ntmps σ a w μ Fz Fy).withM M').mine b ∧ Fy' b) a'.defers w' (fun d hd => ?_) h'.dist fun w'' hw => ?_
    · obtain ⟨D, e1, e2, e3, e4⟩ := h'.defers d hd
      exact ⟨D, e1, ⟨e3 rfl, e2⟩, e4⟩
    obtain ⟨us', k2, k1, k3⟩ := slotsA_sound hT h' hs
    have h2 := h'.shut hw
    obtain ⟨μ2, h3, hrep, _⟩ := h2.mapN (f := fdn d (surv σ1.blk)) fdn_inj fdn_YN
    obtain ⟨h4, h5⟩ := h.backI hM h3
    refine ⟨pack us', ?_, us', M', μ2, Fz', _, rfl, h5, h4, by simp [k2], fun j y hj => ?_⟩
    · rw [results_eq, Array.mapM_eq_mapM_toList]
      simp only [Sem.run_bind, Sem.run_map]
      rw [k1 w'' hw.cell]
      simp only [Result.andThen_ok, Sem.run_pure]
      congr 1
      match us' with
      | [] => rfl
      | [u] => rfl
      | u :: u' :: us'' => simp [pack]
    · simp only [List.getElem?_map, Option.map_eq_some_iff] at hj
      obtain ⟨y', hy', rfl⟩ := hj
      obtain ⟨u, hu, hru⟩ := k3 j y' hy'
      refine ⟨u, hu, ?_⟩
      have := hrep 6 y' u (hru.shut hw)
      exact this.mono (fun _ x => x) (fun _ x => .inl x) (fun _ _ => rfl) (fun _ _ => rfl) (Keeps.refl w'') (fun _ => False) (fun _ _ => .inr ⟨rfl, rfl⟩) (fun _ x => x) (fun _ x => x.elim)
  rcases he with rfl | rfl <;> exact hq
end
end Go.Proofs.Ytoafhoihigfllaa.E
