/-
  The engine, part 8: calls in the caller's memory; closed evaluation. Conditions: none.
-/
import Derived.Test.YtidiigajhbegeaaFg
namespace Go.Proofs.Ytidiigajhbegeaa.E
open Go Go.RowKit
set_option linter.unusedVariables false

def idxOf : Nat → List Nat → Nat → Option Nat
  | _, [], _ => none
  | i, x :: r, s => if x = s then some i else idxOf (i + 1) r s
def newN (d j : Nat) : Nat := 2000000 + 16 * d + j
def fdn (d : Nat) (l : List Nat) (s : Nat) : Option Nat :=
  if hi s = true then (if s = 100099999 ∨ (102000000 + 16 * d ≤ s ∧ s < 102000016 + 16 * d) then none else some (s - 100000000))
  else match idxOf 0 l s with
    | some j => if j < 16 then some (newN d j) else none
    | none => none
def surv : List (Nat × Blk) → List Nat
  | [] => []
  | (s, _) :: r => if hi s = true then surv r else s :: surv r
/-- Into the callee's frame. -/
def St.enterI (σ : St) (args : List V) : St :=
  { env := parEnv 0 (args.map (mapV (onLive σ fup) 6)) ++ upEnv (σ.mapN fup).env, blk := (σ.mapN fup).blk, tr := σ.tr }
/-- Out of it: the results, named by the slot. -/
def St.leaveI (σ : St) (d : Nat) : St := (σ.mapN (fdn d (surv σ.blk))).leave
theorem idxOf_inj : ∀ {l : List Nat} {i s s' j : Nat}, idxOf i l s = some j → idxOf i l s' = some j → s = s' ∧ i ≤ j
  | [], _, _, _, _, h, _ => by simp [idxOf] at h
  | x :: r, i, s, s', j, h, h' => by
    have ge : ∀ {l : List Nat} {i s j : Nat}, idxOf i l s = some j → i ≤ j := by
      intro l
      induction l with
      | nil => intro i s j h; simp [idxOf] at h
      | cons y r ih =>
        intro i s j h
        simp only [idxOf] at h
        split at h
        · simp only [Option.some.injEq] at h; omega
        · have := ih h; omega
    simp only [idxOf] at h h'
    split at h
    · rename_i e
      simp only [Option.some.injEq] at h
      split at h'
      · rename_i e'; exact ⟨e.symm.trans e', by omega⟩
      · have := ge h'; omega
    · split at h'
      · simp only [Option.some.injEq] at h'
        have := ge h; omega
      · obtain ⟨h1, h2⟩ := idxOf_inj h h'
        exact ⟨h1, by omega⟩
theorem fdn_inj {d : Nat} {l : List Nat} (s s' t : Nat) (h : fdn d l s = some t) (h' : fdn d l s' = some t) : s = s' := by
  unfold fdn at h h'
  split at h
  · rename_i h1
    simp only [hi_eq, decide_eq_true_eq] at h1
    split at h
    · cases h
    · rename_i h2
      simp only [Option.some.injEq] at h
      split at h'
      · rename_i h3
        simp only [hi_eq, decide_eq_true_eq] at h3
        split at h'
        · cases h'
        · simp only [Option.some.injEq] at h'; omega
      · split at h'
        · split at h'
          · simp only [Option.some.injEq, newN] at h'; omega
          · cases h'
        · cases h'
  · split at h
    · rename_i j hj
      split at h
      · rename_i hj16
        simp only [Option.some.injEq, newN] at h
        split at h'
        · rename_i h3
          simp only [hi_eq, decide_eq_true_eq] at h3
          split at h'
          · cases h'
          · simp only [Option.some.injEq] at h'; omega
        · split at h'
          · rename_i j' hj'
            split at h'
            · simp only [Option.some.injEq, newN] at h'
              have : j = j' := by omega
              subst this
              exact (idxOf_inj hj hj').1
            · cases h'
          · cases h'
      · cases h
    · cases h
theorem fdn_YN {d : Nat} {l : List Nat} (s : Nat) : fdn d l s ≠ some YN := by
  intro h
  unfold fdn at h
  split at h
  · rename_i h1
    simp only [hi_eq, decide_eq_true_eq] at h1
    split at h
    · cases h
    · simp only [Option.some.injEq, YN] at h; omega
  · split at h
    · split at h
      · simp only [Option.some.injEq, newN, YN] at h; omega
      · cases h
    · cases h
section
variable {C : Base} {σ : St} {a : Act} {w : World} {μ : Mu} {Fz Fy : Nat → Prop}
/-- The callee's base. -/
def Base.callee (C : Base) (N : Nat) (σ : St) (a : Act) (w : World) (μ : Mu) (Fz Fy : Nat → Prop) : Base :=
  { N := N, B := w.heap.size, w0 := w, Fz0 := Fz, X := fun b => (∃ s, lk s σ.blk ≠ none ∧ ∃ base, μ s = some (b, base)) ∨ C.M b, Fy0 := Fy, M := C.M, yl := C.yl, out := fun k => C.get a (k - GH) }
theorem Sim.enterI (h : Sim C σ a w μ Fz Fy) {N : Nat} (hN : N ≤ 90000) {args : List V} {us : List Value} (hl : us.length = args.length) (hn : args.length ≤ N)
    (hr : ∀ (j : Nat) (y : V), args[j]? = some y → ∃ u, us[j]? = some u ∧ RepV μ (shs σ) Fz Fy w y u) :
    ∃ μ', Sim (C.callee N σ a w μ Fz Fy) (σ.enterI args) { tmps := us.toArray ++ Array.replicate (N - us.toArray.size) undef, defers := [] } w μ' Fz Fy := by
  obtain ⟨μ', hm, hrep, hwho⟩ := h.mapN fup_inj fup_YN
  refine ⟨μ', ?_⟩
  refine { defers := fun d hd => by simp at hd, dist := .nil, size := ?_, small := hN, env := fun k v hk => ⟨trivial, ?_⟩, blk := hm.blk, live := fun s hs b base hmm => ?_, inj := hm.inj, zy := h.zy, yl := h.yl, gl := h.gl, z0 := fun b hb => .inl hb, y0 := fun b hb => .inl hb, below := BelowX.refl _ (Nat.le_refl _), big := Nat.le_refl _, fm := hm.fm, yd := fun y hy => ?_, mm := fun b hb => .inr (.inr hb), lp := fun _ e => (by cases e) }
  · simp [Base.callee, hl]; omega
  · rcases lk_append hk with hk | hk
    · rw [lk_parEnv] at hk
      simp only [Nat.zero_le, if_true, Nat.sub_zero, List.getElem?_map, Option.map_eq_some_iff] at hk
      obtain ⟨y, hy, rfl⟩ := hk
      have hkl : k < args.length := (List.getElem?_eq_some_iff.1 hy).1
      obtain ⟨u, hu, hru⟩ := hr k y hy
      have e : (C.callee N σ a w μ Fz Fy).get { tmps := us.toArray ++ Array.replicate (N - us.toArray.size) undef, defers := [] } k = u := by
        have hku : k < us.length := by omega
        rw [List.getElem?_eq_getElem hku] at hu
        simp only [Option.some.injEq] at hu
        rw [Base.get, if_pos (by unfold GH; omega)]
        simp [Array.getD_eq_getD_getElem?, Array.getElem?_append, hku, hu]
      rw [e]
      exact hrep 6 y u hru
    · obtain ⟨h1, h2⟩ := lk_up hk
      have := (hm.env (k - GH) v h2).2
      rw [show (C.callee N σ a w μ Fz Fy).get { tmps := us.toArray ++ Array.replicate (N - us.toArray.size) undef, defers := [] } k = C.get a (k - GH) from by rw [Base.get, if_neg (by omega)]; rfl]
      exact this
  · obtain ⟨s', hs', _, e⟩ := hwho s hs
    exact ⟨.inr (.inl ⟨s', hs', base, e ▸ hmm⟩), (hm.live s hs b base hmm).2⟩
  · obtain ⟨y1, y2, y3, y4, y5⟩ := hm.yd y hy
    refine ⟨y1, y2, Nat.le_trans y3 h.big, fun b hlt hb => ?_, fun b hb => .inr (.inr hb)⟩
    rcases hb with ⟨s, hs, base, hmm⟩ | hb
    · rcases (h.live s hs b base hmm).1 with h1 | h1
      · exact absurd h1 (by omega)
      · exact y4 b hlt h1
    · exact .inl hb
theorem RepV.shut {sh : Mu} {w' : World} {own : Nat → Prop} (hw : Shut own w w') {x : V} {v : Value} (h : RepV μ sh Fz Fy w x v) : RepV μ sh Fz Fy w' x v := by
  have hroom : ∀ b o n, Room w b o n → Room w' b o n := fun b o n ⟨c, e, hc, hn⟩ => by
    rcases hw.blk b with k | ⟨_, ds, k⟩
    · exact ⟨c, e, k.trans hc, hn⟩
    · rw [k] at hc; cases hc
  induction h with
  | yv l hm => exact .yv l hm
  | top v => exact .top v
  | fv ro x v h => exact .fv ro x v (h.cells_mono (fun _ x => x) hw.cell)
  | ownx s off len v h => exact .ownx s off len v h
  | own s off len ad cap sz n hs hn hc hm => exact .own s off len ad cap sz n hs hn hc (hm.imp id fun ⟨b, base, e1, e2, e3⟩ => ⟨b, base, e1, e2, hroom _ _ _ e3⟩)
  | ptrx s off v h => exact .ptrx s off v h
  | ptr s off b base hm => exact .ptr s off b base hm
  | pelx s i j v h => exact .pelx s i j v h
  | pel s i j sz n b base hs hi hm => exact .pel s i j sz n b base hs hi hm
  | agg cells vs hs hr ih => exact .agg cells vs hs ih
  | fn f first captured vf vc hs hs' hr hr' ih ih' => exact .fn f first captured vf vc hs hs' ih ih'
  | mapx s v h => exact .mapx s v h
  | map s b base hm => exact .map s b base hm
  | tup cells vs hs hr ih => exact .tup cells vs hs ih
theorem RepB.shut {sh : Mu} {w' : World} {own : Nat → Prop} (hw : Shut own w w') {s : Nat} {x : Blk} (h : RepB μ sh Fz Fy w s x) : RepB μ sh Fz Fy w' s x := by
  have hcells : ∀ (b : Nat) (o : Obj), w.heap[b]? = some o → (∀ ds, o ≠ .deferred ds) → w'.heap[b]? = some o := fun b o hb hne => by
    rcases hw.blk b with k | ⟨_, ds, k⟩
    · exact k.trans hb
    · rw [k] at hb; simp only [Option.some.injEq] at hb; exact absurd hb.symm (hne ds)
  cases h with
  | nil sz => exact .nil sz
  | arr sz xs b base c e hm hh hc hsz hr => exact .arr sz xs b base c e hm (hcells _ _ hh (by simp)) hc hsz fun i x j y h1 h2 => (hr i x j y h1 h2).cells_mono (fun _ x => x) hw.cell
  | box cells b c e hm hh hc hr => exact .box cells b c e hm (hcells _ _ hh (by simp)) hc fun j y hj => (hr j y hj).shut hw
  | lst sz n cells b base c e hm hh hl hc hr => exact .lst sz n cells b base c e hm (hcells _ _ hh (by simp)) hl hc fun j y hj => (hr j y hj).shut hw
  | mp es b c hm hh hc hr =>
    refine .mp es b c hm (hcells _ _ hh (by simp)) hc fun j y hj => ?_
    obtain ⟨m, h1, h0, h2, h3⟩ := hr j y hj
    exact ⟨m, h1, h0, h2.cells_mono (fun _ x => x) hw.cell, h3.shut hw⟩
  | mit mv since last seen b x hm hh hr => exact .mit mv since last seen b x hm (hcells _ _ hh (by simp)) (hr.shut hw)
/-- Marks of the frame are taken. -/
theorem Sim.shut {w' : World} (h : Sim C σ a w μ Fz Fy) (hw : Shut (fun b => C.mine b ∧ Fy b) w w') : Sim C σ { a with defers := [] } w' μ Fz Fy := by
  have hcells : ∀ (b : Nat) (o : Obj), w.heap[b]? = some o → (∀ ds, o ≠ .deferred ds) → w'.heap[b]? = some o := fun b o hb hne => by
    rcases hw.blk b with k | ⟨_, ds, k⟩
    · exact k.trans hb
    · rw [k] at hb; simp only [Option.some.injEq] at hb; exact absurd hb.symm (hne ds)
  have hb := h.below
  have hbel : BelowX C w' := by
    refine ⟨hw.os.trans hb.os, hw.tape.trans hb.tape, hw.output.trans hb.output, by rw [hw.size]; exact hb.size, fun k hk hx => ?_, fun k c e fr hx hk hc => ?_⟩
    · rcases hw.blk k with k1 | ⟨⟨k1, _⟩, _⟩
      · exact k1.trans (hb.block k hk hx)
      · rcases k1 with k1 | k1
        · omega
        · exact absurd k1 hx
    · obtain ⟨c', e1, e2⟩ := hb.kept k c e fr hx hk hc
      exact ⟨c', hcells _ _ e1 (by simp), e2⟩
  have hsame : ∀ b, C.M b → w'.heap[b]? = w.heap[b]? := fun b hM => (hw.blk b).resolve_right fun ⟨⟨_, k⟩, _⟩ => (h.fm b hM).2.1 k
  have hkp : Keeps w w' := fun b c e fr hb => ⟨c, hcells b _ hb (by simp), rfl⟩
  exact { defers := fun d hd => by simp at hd, dist := .nil, size := h.size, small := h.small, env := fun k v hk => ⟨trivial, ((h.env k v hk).2).shut hw⟩, blk := fun s b hb => (h.blk s b hb).shut hw, live := fun s hs b base hm => by rw [hw.size]; exact h.live s hs b base hm, inj := h.inj, zy := h.zy, yl := fun b hb => by rw [hw.size]; exact h.yl b hb, z0 := h.z0, y0 := h.y0, below := hbel, big := by rw [hw.size]; exact h.big, fm := fun b hb => by rw [hw.size]; exact h.fm b hb, yd := h.yd_stays hkp hbel (by rw [hw.size]; exact Nat.le_refl _) hsame, mm := h.mm, lp := h.lp, gl := fun g c e => (h.gl g c e).cells_mono (fun _ x => x) hw.cell }
/-- Back in the caller's frame. -/
theorem Sim.backI (h : Sim C σ a w μ Fz Fy) {N : Nat} {M1 : Nat → Prop} {τ : St} {a1 : Act} {w1 : World} {μ1 : Mu} {Fz1 Fy1 : Nat → Prop} (hM1 : More (C.callee N σ a w μ Fz Fy) M1) (S : Sim ((C.callee N σ a w μ Fz Fy).withM M1) τ a1 w1 μ1 Fz1 Fy1) :
    Sim (C.withM M1) τ.leave a w1 μ1 Fz1 (fun b => Fy1 b ∨ ∃ d ∈ a.defers, d.target = .collected b) ∧ More C M1 := by
  have hbel := S.below
  have hsz : w.heap.size ≤ w1.heap.size := hbel.size
  have hk : Keeps w w1 := fun b c e fr hb => by
    have hbl := (Array.getElem?_eq_some_iff.1 hb).1
    by_cases ho : ((C.callee N σ a w μ Fz Fy).withM M1).X b
    · exact hbel.kept b c e fr ho hbl hb
    · exact ⟨c, (hbel.block b hbl ho).trans hb, rfl⟩
  have h' : Sim (C.withM C.M) σ a w μ Fz Fy := h
  refine ⟨Sim.back (l := w.heap.size) h' S (M2 := M1) rfl ((C.callee N σ a w μ Fz Fy).withM M1).mine (fun b hb => hb) rfl rfl hM1.sub (fun b hb => (hM1.new b hb).elim (fun k => .inr (.inr k)) .inl) (fun s hs b base hm => (S.live s hs b base hm).1) S.z0 S.y0 h.big (fun hf => absurd (h.yl _ hf) (by omega)) hbel.os hbel.tape hbel.output hsz hk (fun b hb ho _ => hbel.block b hb fun hx => ho (.inr hx)), hM1.sub, fun b hb => (hM1.new b hb).imp id fun k => Nat.le_trans h.big k⟩
/-- A CALL, ITS CALLEE RUN IN THE CALLER'S MEMORY. -/
theorem inl_of_exec {G : Pg} (hT : TOk G) (hC : CtxOk G) (hyl : G.yl = none) {k : FuncId} {fn : Func} {c : Code} (hf : G.P.funcs[k]? = some fn) (hb : fn.body = some c) {L : Live} {D : Drawer} (hD : DrawOk G fn.ntmps D) (n d : Nat) {σ : St}
    {args : List V} (hargs : args.length ≤ fn.ntmps ∧ fn.ntmps ≤ 90000) {e : Ex} {σ1 : St} (hx : exec G L fn.ntmps D n c (σ.enterI args) = some (e, σ1)) (he : e = .normal ∨ e = .ret) {vs : List V} (hs : slotsA G σ1 fn.results.toList = some vs) :
    InlOK G.P k σ args (σ1.leaveI d) (vs.map (mapV (onLive σ1 (fdn d (surv σ1.blk))) 6)) := by
  intro C a w μ Fz Fy us h hl hr
  refine calls_of_marks hf hb ?_
  obtain ⟨μ0, hinit⟩ := h.enterI hargs.2 hl hargs.1 hr
  refine exec_sound hT hC hD c (C.callee fn.ntmps σ a w μ Fz Fy) _ _ _ _ _ _ _ _ _ 0 rfl (yok_none hyl) hinit hx fun M' a' w' μ' Fz' Fy' hM h' => ?_
  have hq : LeavesInM (FR none) 0 G.P fn a'.tmps (fun e w' => ∃ rs M' μ' Fz' Fy', e = .returned (pack rs) ∧ More C M' ∧ Sim (C.withM M') (σ1.leaveI d) a w' μ' Fz' Fy' ∧ rs.length = (vs.map (mapV (onLive σ1 (fdn d (surv σ1.blk))) 6)).length ∧ ∀ (j : Nat) (y : V), (vs.map (mapV (onLive σ1 (fdn d (surv σ1.blk))) 6))[j]? = some y → ∃ u, rs[j]? = some u ∧ RepV μ' (shs (σ1.leaveI d)) Fz' Fy' w' y u) a'.defers .returning w' := by
    refine leaves_marks (own := fun b => ((C.callee fn.ntmps σ a w μ Fz Fy).withM M').mine b ∧ Fy' b) a'.defers w' (fun d hd => ?_) h'.dist fun w'' hw => ?_
    · obtain ⟨D, e1, e2, e3, e4⟩ := h'.defers d hd
      exact ⟨D, e1, ⟨e3 rfl, e2⟩, e4⟩
    obtain ⟨us', k2, k1, k3⟩ := slotsA_sound hT h' hs
    have h2 := h'.shut hw
    obtain ⟨μ2, h3, hrep, _⟩ := h2.mapN (f := fdn d (surv σ1.blk)) fdn_inj fdn_YN
    obtain ⟨h4, h5⟩ := h.backI hM h3
    refine ⟨pack us', ?_, us', M', μ2, Fz', _, rfl, h5, h4, by simp [k2], fun j y hj => ?_⟩
    · rw [results_eq, Array.mapM_eq_mapM_toList]
      simp only [Sem.run_bind, Sem.run_map]
      rw [k1 w'' hw.cell]
      simp only [Result.andThen_ok, Sem.run_pure]
      congr 1
      match us' with
      | [] => rfl
      | [u] => rfl
      | u :: u' :: us'' => simp [pack]
    · simp only [List.getElem?_map, Option.map_eq_some_iff] at hj
      obtain ⟨y', hy', rfl⟩ := hj
      obtain ⟨u, hu, hru⟩ := k3 j y' hy'
      refine ⟨u, hu, ?_⟩
      have := hrep 6 y' u (hru.shut hw)
      exact this.mono (fun _ x => x) (fun _ x => .inl x) (fun _ _ => rfl) (fun _ _ => rfl) (Keeps.refl w'') (fun _ => False) (fun _ _ => .inr ⟨rfl, rfl⟩) (fun _ x => x) (fun _ x => x.elim)
  rcases he with rfl | rfl <;> exact hq
end
end Go.Proofs.Ytidiigajhbegeaa.E
namespace Go.Proofs.Ytidiigajhbegeaa.E
open Go Go.RowKit
set_option linter.unusedVariables false

structure FnI where
  fn : Func
  live : Live
  plans : List (Nat × Plan)
  pure : Bool
  fz : Bool := false
  pin : List Nat := []
def okEx : Ex → Bool
  | .normal => true
  | .ret => true
  | .exit _ => false
def sizeOk (f : FnI) (m : Nat) : Bool := Nat.ble m f.fn.ntmps && Nat.ble f.fn.ntmps 90000
/-- A function's body, run from a state. -/
def Pg.withP (G : Pg) (p : List Nat) : Pg := { G with pin := p }
def runF (G0 : Pg) (f : FnI) (σ : St) : Option (St × List V) :=
  let G := G0.withP f.pin
  match f.fn.body with
  | some c => match exec G f.live f.fn.ntmps (drawX f.plans G f.live f.fn.ntmps) R c σ with
    | some (e, σ1) => if okEx e = true then match slotsA G σ1 f.fn.results.toList with
        | some vs => some (σ1, vs)
        | none => none
      else none
    | none => none
  | none => none
def pureF (G : Pg) (f : FnI) (xs : List (Bool × FV)) : Option (List TV) :=
  if sizeOk f xs.length = true then match runF G f (initSt xs) with
    | some (σ1, vs) => retsA σ1 [] vs
    | none => none
  else none
def inlF (G : Pg) (f : FnI) (d : Nat) (σ : St) (args : List V) : Option (St × List V) :=
  if sizeOk f args.length = true then match runF G f (σ.enterI args) with
    | some (σ1, vs) => some (σ1.leaveI d, vs.map (mapV (onLive σ1 (fdn d (surv σ1.blk))) 6))
    | none => none
  else none
def Pg.withY (G : Pg) (y : Option (Option (List (List FV)) × Option Nat)) : Pg := { G with yl := y }
def itF (G : Pg) (f : FnI) (caps : List (Bool × FV)) (zs : List (List FV)) (st : Option Nat) : Bool :=
  if sizeOk f (caps.length + 1) = true then match runF (G.withY (some (some zs, st))) f (initStY caps) with
    | some (σ1, _) => Nat.beq σ1.tr.length zs.length
    | none => false
  else false
def seqF (G : Pg) (f : FnI) (caps : List (Bool × FV)) : Option (List (List FV)) :=
  match runF (G.withY (some (none, none))) f (initStY caps) with
  | some (σ1, _) => if itF G f caps σ1.tr none = true then some σ1.tr else none
  | none => none
def itFH (G : Pg) (f : FnI) (bs : List (Nat × Blk)) (caps : List V) (zs : List (List FV)) : Bool :=
  if sizeOk f (caps.length + 1) = true then match runF (G.withY (some (some zs, none))) f (initStH bs caps) with
    | some (σ1, _) => Nat.beq σ1.tr.length zs.length
    | none => false
  else false
def seqFH (G : Pg) (f : FnI) (bs : List (Nat × Blk)) (caps : List V) : Option (List (List FV)) :=
  match runF (G.withY (some (none, none))) f (initStH bs caps) with
  | some (σ1, _) => if itFH G f bs caps σ1.tr = true then some σ1.tr else none
  | none => none
abbrev FnTab := List (Nat × FnI)
def evG (base : Pg) (T : FnTab) : Nat → Pg
  | 0 => base
  | n + 1 =>
    { base with
      ctx := fun k xs => match lk k T with
        | some f => if f.pure = true then pureF (evG base T n) f xs else none
        | none => base.ctx k xs
      inl := fun k d σ args => match lk k T with
        | some f => inlF (evG base T n) f d σ args
        | none => base.inl k d σ args
      fz := fun k => match lk k T with
        | some f => f.fz
        | none => base.fz k
      itr := fun k caps => match lk k T with
        | some f => seqF (evG base T n) f caps
        | none => base.itr k caps
      its := fun k caps i => match lk k T with
        | some f => match seqF (evG base T n) f caps with
          | some xs => itF (evG base T n) f caps (xs.take (i + 1)) (some i)
          | none => false
        | none => base.its k caps i
      itrH := fun k bs caps => match lk k T with
        | some f => seqFH (evG base T n) f bs caps
        | none => base.itrH k bs caps }
def fnChk (f : FnI) : Bool := f.fn.body.isSome && !(f.fn.name == "runtime.NumGoroutine")
def TabOk (P : Program) : FnTab → Prop
  | [] => True
  | (k, f) :: r => (P.funcs[k]? = some f.fn ∧ fnChk f = true) ∧ TabOk P r
theorem TabOk.get {P : Program} : ∀ {T : FnTab} {k : Nat} {f : FnI}, TabOk P T → lk k T = some f → P.funcs[k]? = some f.fn ∧ fnChk f = true
  | (j, g) :: r, k, f, h, hk => by
    simp only [lk] at hk
    split at hk
    · rename_i e; subst e
      simp only [Option.some.injEq] at hk; subst hk
      exact h.1
    · exact TabOk.get h.2 hk
theorem enters_tab {P : Program} {T : FnTab} {k : Nat} {f : FnI} (h : TabOk P T) (hk : lk k T = some f) : Enters P k := by
  obtain ⟨h1, h2⟩ := h.get hk
  simp only [fnChk, Bool.and_eq_true, Bool.not_eq_true', Option.isSome_iff_exists] at h2
  obtain ⟨⟨c, hc⟩, h3⟩ := h2
  exact ⟨f.fn, h1, by simp [hc], h3⟩
section
variable {G : Pg}
theorem tok_withY {y : Option (Option (List (List FV)) × Option Nat)} (hT : TOk G) : TOk (G.withY y) := ⟨hT.tt, hT.ee, hT.kk, hT.zv⟩
theorem ctx_withY {y : Option (Option (List (List FV)) × Option Nat)} (hC : CtxOk G) : CtxOk (G.withY y) := ⟨hC.c, hC.b, hC.s, hC.l, hC.i, hC.t, hC.h⟩
theorem tok_withP {p : List Nat} (hT : TOk G) : TOk (G.withP p) := ⟨hT.tt, hT.ee, hT.kk, hT.zv⟩
theorem ctx_withP {p : List Nat} (hC : CtxOk G) : CtxOk (G.withP p) := ⟨hC.c, hC.b, hC.s, hC.l, hC.i, hC.t, hC.h⟩
theorem runF_get {f : FnI} {σ σ1 : St} {vs : List V} (h : runF G f σ = some (σ1, vs)) : ∃ c e, f.fn.body = some c ∧ exec (G.withP f.pin) f.live f.fn.ntmps (drawX f.plans (G.withP f.pin) f.live f.fn.ntmps) R c σ = some (e, σ1) ∧ (e = .normal ∨ e = .ret) ∧ slotsA (G.withP f.pin) σ1 f.fn.results.toList = some vs := by
  unfold runF at h
  simp only at h
  split at h
  · rename_i c hc
    split at h
    · rename_i e σ2 he
      split at h
      · rename_i hok
        split at h
        · rename_i vs' hvs
          simp only [Option.some.injEq, Prod.mk.injEq] at h
          obtain ⟨rfl, rfl⟩ := h
          refine ⟨c, e, hc, he, ?_, hvs⟩
          cases e with
          | normal => exact .inl rfl
          | ret => exact .inr rfl
          | exit id => simp [okEx] at hok
        · cases h
      · cases h
    · cases h
  · cases h
theorem sizeOk_get {f : FnI} {m : Nat} (h : sizeOk f m = true) : m ≤ f.fn.ntmps ∧ f.fn.ntmps ≤ 90000 := by
  simpa [sizeOk] using h
theorem pureF_sound (hT : TOk G) (hC : CtxOk G) (hyl : G.yl = none) (hmix : G.P.follows .mixedOrders = true) {k : FuncId} {f : FnI} (hf : G.P.funcs[k]? = some f.fn) {xs : List (Bool × FV)} {res : List TV} (h : pureF G f xs = some res) : Valid G.P k xs res := by
  unfold pureF at h
  split at h
  · rename_i hs
    split at h
    · rename_i σ1 vs hr
      obtain ⟨c, e, h1, h2, h3, h4⟩ := runF_get hr
      exact valid_of_exec (G := G.withP f.pin) (tok_withP hT) (ctx_withP hC) hyl hf h1 (drawOkX (G := G.withP f.pin) (tok_withP hT) (ctx_withP hC) hmix _ _ _) R (sizeOk_get hs) h2 h3 h4 h
    · cases h
  · cases h
theorem inlF_sound (hT : TOk G) (hC : CtxOk G) (hyl : G.yl = none) (hmix : G.P.follows .mixedOrders = true) {k : FuncId} {f : FnI} (hf : G.P.funcs[k]? = some f.fn) {d : Nat} {σ σ' : St} {args vs : List V} (h : inlF G f d σ args = some (σ', vs)) : InlOK G.P k σ args σ' vs := by
  unfold inlF at h
  split at h
  · rename_i hs
    split at h
    · rename_i σ1 vs' hr
      simp only [Option.some.injEq, Prod.mk.injEq] at h
      obtain ⟨rfl, rfl⟩ := h
      obtain ⟨c, e, h1, h2, h3, h4⟩ := runF_get hr
      exact inl_of_exec (G := G.withP f.pin) (tok_withP hT) (ctx_withP hC) hyl hf h1 (drawOkX (G := G.withP f.pin) (tok_withP hT) (ctx_withP hC) hmix _ _ _) R d (sizeOk_get hs) h2 h3 h4
    · cases h
  · cases h
theorem itF_sound (hT : TOk G) (hC : CtxOk G) (hmix : G.P.follows .mixedOrders = true) {k : FuncId} {f : FnI} (hf : G.P.funcs[k]? = some f.fn) {caps : List (Bool × FV)} {zs : List (List FV)} {st : Option Nat} (h : itF G f caps zs st = true) : ItOK G.P k caps zs st := by
  unfold itF at h
  split at h
  · rename_i hs
    split at h
    · rename_i σ1 vs' hr
      obtain ⟨c, e, h1, h2, h3, h4⟩ := runF_get hr
      exact it_of_exec (G := (G.withY (some (some zs, st))).withP f.pin) (tok_withP (tok_withY hT)) (ctx_withP (ctx_withY hC)) rfl hf h1 (drawOkX (G := (G.withY (some (some zs, st))).withP f.pin) (tok_withP (tok_withY hT)) (ctx_withP (ctx_withY hC)) hmix _ _ _) R (sizeOk_get hs) h2 h3 (by simpa using h) h4
    · cases h
  · cases h
theorem seqF_sound (hT : TOk G) (hC : CtxOk G) (hmix : G.P.follows .mixedOrders = true) {k : FuncId} {f : FnI} (hf : G.P.funcs[k]? = some f.fn) {caps : List (Bool × FV)} {xs : List (List FV)} (h : seqF G f caps = some xs) : ItOK G.P k caps xs none := by
  unfold seqF at h
  split at h
  · split at h
    · rename_i hit
      simp only [Option.some.injEq] at h; subst h
      exact itF_sound hT hC hmix hf hit
    · cases h
  · cases h
theorem itFH_sound (hT : TOk G) (hC : CtxOk G) (hmix : G.P.follows .mixedOrders = true) {k : FuncId} {f : FnI} (hf : G.P.funcs[k]? = some f.fn) {bs : List (Nat × Blk)} {caps : List V} {zs : List (List FV)} (h : itFH G f bs caps zs = true) : ItH G.P k bs caps zs none := by
  unfold itFH at h
  split at h
  · rename_i hs
    split at h
    · rename_i σ1 vs' hr
      obtain ⟨c, e, h1, h2, h3, h4⟩ := runF_get hr
      exact it_of_execH (G := (G.withY (some (some zs, none))).withP f.pin) (tok_withP (tok_withY hT)) (ctx_withP (ctx_withY hC)) rfl hf h1 (drawOkX (G := (G.withY (some (some zs, none))).withP f.pin) (tok_withP (tok_withY hT)) (ctx_withP (ctx_withY hC)) hmix _ _ _) R (sizeOk_get hs) h2 h3 (by simpa using h) h4
    · cases h
  · cases h
theorem seqFH_sound (hT : TOk G) (hC : CtxOk G) (hmix : G.P.follows .mixedOrders = true) {k : FuncId} {f : FnI} (hf : G.P.funcs[k]? = some f.fn) {bs : List (Nat × Blk)} {caps : List V} {xs : List (List FV)} (h : seqFH G f bs caps = some xs) : ItH G.P k bs caps xs none := by
  unfold seqFH at h
  split at h
  · split at h
    · rename_i hit
      simp only [Option.some.injEq] at h; subst h
      exact itFH_sound hT hC hmix hf hit
    · cases h
  · cases h
theorem evG_P (base : Pg) (T : FnTab) : ∀ n, (evG base T n).P = base.P ∧ (evG base T n).tbl = base.tbl ∧ (evG base T n).eqs = base.eqs ∧ (evG base T n).yl = base.yl ∧ (evG base T n).keys = base.keys
  | 0 => ⟨rfl, rfl, rfl, rfl, rfl⟩
  | n + 1 => ⟨rfl, rfl, rfl, rfl, rfl⟩
theorem evG_T {base : Pg} {T : FnTab} (hT : TOk base) (n : Nat) : TOk (evG base T n) := by
  obtain ⟨h1, h2, h3, _, h5⟩ := evG_P base T n
  exact ⟨fun t ti h => h1 ▸ hT.tt t ti (h2 ▸ h), fun t m h => h1 ▸ hT.ee t m (h3 ▸ h), fun t m hk h => h1 ▸ hT.kk t m (h5 ▸ hk) (h3 ▸ h), fun t ti z h ha hz w => h1 ▸ hT.zv t ti z (h2 ▸ h) ha hz w⟩
/-- WHAT THE EVALUATION GIVES, HOLDS. -/
theorem evG_ok {base : Pg} {T : FnTab} (hT : TOk base) (hC : CtxOk base) (hyl : base.yl = none) (hmix : base.P.follows .mixedOrders = true) (hF : TabOk base.P T) : ∀ n, CtxOk (evG base T n)
  | 0 => hC
  | n + 1 => by
    have ih := evG_ok hT hC hyl hmix hF n
    obtain ⟨h1, h2, h3, h4, _⟩ := evG_P base T n
    have hTn := evG_T (T := T) hT n
    have hmn : (evG base T n).P.follows .mixedOrders = true := h1 ▸ hmix
    refine ⟨fun k xs res h => ?_, hC.b, hC.s, fun k d σ args σ' vs h => ?_, fun k caps xs h => ?_, fun k caps xs i h hs hi => ?_, fun k bs caps xs h => ?_⟩
    · simp only [evG] at h
      split at h
      · rename_i f hf
        split at h
        · exact ⟨h1 ▸ pureF_sound hTn ih (h4.trans hyl) hmn (h1 ▸ (hF.get hf).1) h, enters_tab hF hf⟩
        · cases h
      · exact hC.c k xs res h
    · simp only [evG] at h
      split at h
      · rename_i f hf
        exact ⟨h1 ▸ inlF_sound hTn ih (h4.trans hyl) hmn (h1 ▸ (hF.get hf).1) h, enters_tab hF hf⟩
      · exact hC.l k d σ args σ' vs h
    · simp only [evG] at h
      split at h
      · rename_i f hf
        exact ⟨h1 ▸ seqF_sound hTn ih hmn (h1 ▸ (hF.get hf).1) h, enters_tab hF hf⟩
      · exact hC.i k caps xs h
    · simp only [evG] at h hs
      split at h
      · rename_i f hf
        simp only [hf] at hs
        rw [h] at hs
        exact h1 ▸ itF_sound hTn ih hmn (h1 ▸ (hF.get hf).1) hs
      · rename_i hf
        simp only [hf] at hs
        exact hC.t k caps xs i h hs hi
    · simp only [evG] at h
      split at h
      · rename_i f hf
        exact ⟨h1 ▸ seqFH_sound hTn ih hmn (h1 ▸ (hF.get hf).1) h, enters_tab hF hf⟩
      · exact hC.h k bs caps xs h
end
end Go.Proofs.Ytidiigajhbegeaa.E
