/-
  The engine, part m: what is said of a function once: which values go in and come out; and a call of a function of which that is said. Conditions: none; it is stated of any program and table of its types.
-/
import Derived.Test.YtoafhoihigfllaaEl
import Derived.CallsIn
namespace Go.Proofs.Ytoafhoihigfllaa.E
open Go Go.RowKit
set_option linter.unusedVariables false

/-- What a result's part is, in the world behind the call; m: where its own memory lies, if it has some. -/
inductive CompOK (Z : Nat → Prop) (w : World) (m : Option (Nat × Nat)) : TV → Value → Prop where
  | fv (x : FV) (v : Value) (h : RepF Z w x v) : CompOK Z w m (.fv x) v
  | us (sz : Nat) (xs : List FV) (v : Value) (hv : RepV (fun _ => m) (fun _ => some (sz, xs.length)) Z Z w (.own 0 0 xs.length) v) (hb : RepB (fun _ => m) (fun _ => none) Z Z w 0 (.arr sz xs)) : CompOK Z w m (.us sz xs) v
def pack : List Value → Value
  | [v] => v
  | vs => .tuple vs.toArray
def newX (X Fz : Nat → Prop) (w w' : World) (m : Nat → Option (Nat × Nat)) : Nat → Prop := fun b => Fz b ∨ ((w.heap.size ≤ b ∨ X b) ∧ b < w'.heap.size ∧ ∀ j base, m j ≠ some (b, base))
def noX : Nat → Prop := fun _ => False
/-- The results, behind a call. -/
structure Res (X Fz : Nat → Prop) (w w' : World) (res : List TV) (v : Value) (vs : List Value) (m : Nat → Option (Nat × Nat)) : Prop where
  val : v = pack vs
  len : vs.length = res.length
  comp : ∀ (j : Nat) (r : TV), res[j]? = some r → ∃ u, vs[j]? = some u ∧ CompOK (newX X Fz w w' m) w' (m j) r u
  new : ∀ (j b base : Nat), m j = some (b, base) → (w.heap.size ≤ b ∨ X b) ∧ b < w'.heap.size
  apart : ∀ (i j b base b' base' : Nat), i ≠ j → m i = some (b, base) → m j = some (b', base') → b ≠ b'
/-- WHAT IS SAID OF A FUNCTION AT ARGUMENTS: whatever stands for them, the call returns what stands for the results, and nothing that was there has changed. -/
def Valid (P : Program) (k : FuncId) (args : List (Bool × FV)) (res : List TV) : Prop :=
  ∀ (w : World) (Fz Fy : Nat → Prop) (vs : List Value), (∀ b, Fz b → Fy b) → (∀ b, Fy b → b < w.heap.size) → vs.length = args.length →
    (∀ (j : Nat) (p : Bool × FV), args[j]? = some p → ∃ v, vs[j]? = some v ∧ RepF (roF Fz Fy p.1) w p.2 v) →
    Calls P k vs.toArray w fun e w' => ∃ v us m, e = .returned v ∧ Below w.heap.size w w' ∧ Res noX Fz w w' res v us m

/-! ### The results get names in the caller's frame -/
def nm (d : Nat) (single : Bool) (j : Nat) : Nat := if single then d + 100000 * j else 1000 + 16 * d + 100000 * j
theorem nm_inj {d : Nat} {s : Bool} {i j : Nat} (h : nm d s i = nm d s j) : i = j := by
  cases s <;> simp [nm] at h <;> omega
def addRes (d : Nat) (s : Bool) : Nat → List TV → St → St × List V
  | _, [], σ => (σ, [])
  | j, .fv x :: r, σ => ((addRes d s (j + 1) r σ).1, .fv false x :: (addRes d s (j + 1) r σ).2)
  | j, .us sz xs :: r, σ =>
    ({ ((addRes d s (j + 1) r σ).1.drop (nm d s j)).kill [nm d s j] with blk := put (nm d s j) (.arr sz xs) (((addRes d s (j + 1) r σ).1.drop (nm d s j)).kill [nm d s j]).blk }, .own (nm d s j) 0 xs.length :: (addRes d s (j + 1) r σ).2)
section
variable {C : Base} {σ : St} {a : Act} {w w' : World} {μ : Mu} {Fz Fy : Nat → Prop} {G : Pg}
theorem nm_YN {d j : Nat} {s : Bool} (hd : d < 90000) : nm d s j ≠ YN := by
  unfold nm YN
  cases s <;> simp <;> omega
theorem addRes_sound {Z Y : Nat → Prop} (d : Nat) (s : Bool) (m : Nat → Option (Nat × Nat)) (hm : ∀ (i j b base b' base' : Nat), i ≠ j → m i = some (b, base) → m j = some (b', base') → b ≠ b')
    (hmw : ∀ (j b base : Nat), m j = some (b, base) → C.mine b ∧ b < w.heap.size ∧ (¬ Y b ∧ ¬ C.M b)) (hd : d < 90000) :
    ∀ (res : List TV) (j : Nat) (vs : List Value), Sim C σ a w μ Z Y → (∀ (k b base : Nat), m k = some (b, base) → ∀ t, lk t σ.blk ≠ none → ∀ b' base', μ t = some (b', base') → b' ≠ b) →
      (∀ (i : Nat) (r : TV), res[i]? = some r → ∃ u, vs[i]? = some u ∧ CompOK Z w (m (j + i)) r u) →
      ∃ μ', Sim C (addRes d s j res σ).1 a w μ' Z Y ∧ (addRes d s j res σ).2.length = res.length ∧
        (∀ (i : Nat) (y : V), (addRes d s j res σ).2[i]? = some y → ∃ u, vs[i]? = some u ∧ RepV μ' (shs (addRes d s j res σ).1) Z Y w y u) ∧
        (∀ t, lk t (addRes d s j res σ).1.blk ≠ none → (∃ k, j ≤ k ∧ t = nm d s k ∧ μ' t = m k) ∨ (lk t σ.blk ≠ none ∧ μ' t = μ t)) ∧
        (∀ y ∈ (addRes d s j res σ).2, ∀ t, (∀ k, j ≤ k → t ≠ nm d s k) → ment 1 t y = false)
  | [], j, vs, h, _, _ => ⟨μ, h, rfl, by simp [addRes], fun t ht => .inr ⟨ht, rfl⟩, by simp [addRes]⟩
  | .fv x :: r, j, vs, h, hf, hc => by
    obtain ⟨u, hu, hcu⟩ := hc 0 _ rfl
    cases vs with
    | nil => simp at hu
    | cons v vs =>
    simp only [List.getElem?_cons_zero, Option.some.injEq] at hu; subst hu
    obtain ⟨μ', h1, h2, h3, h4, h5⟩ := addRes_sound d s m hm hmw hd r (j + 1) vs h hf (fun i r hi => by
      obtain ⟨u, hu, hcu⟩ := hc (i + 1) r (by simpa using hi)
      exact ⟨u, by simpa using hu, by rwa [show j + 1 + i = j + (i + 1) from by omega]⟩)
    refine ⟨μ', h1, by simp [addRes, h2], fun i y hi => ?_, fun t ht => ?_, fun y hy t ht => ?_⟩
    · cases i with
      | zero =>
        simp only [addRes, List.getElem?_cons_zero, Option.some.injEq] at hi; subst hi
        cases hcu with
        | fv _ _ hx => exact ⟨v, rfl, .fv _ _ _ hx⟩
      | succ i =>
        obtain ⟨u, hu, hr⟩ := h3 i y (by simpa [addRes] using hi)
        exact ⟨u, by simpa using hu, hr⟩
    · rcases h4 t ht with ⟨k, hk, e1, e2⟩ | h'
      · exact .inl ⟨k, by omega, e1, e2⟩
      · exact .inr h'
    · simp only [addRes, List.mem_cons] at hy
      rcases hy with rfl | hy
      · rfl
      · exact h5 y hy t fun k hk => ht k (by omega)
  | .us sz xs :: r, j, vs, h, hf, hc => by
    obtain ⟨u, hu, hcu⟩ := hc 0 _ rfl
    cases vs with
    | nil => simp at hu
    | cons v vs =>
    simp only [List.getElem?_cons_zero, Option.some.injEq] at hu; subst hu
    obtain ⟨μ', h1, h2, h3, h4, h5⟩ := addRes_sound d s m hm hmw hd r (j + 1) vs h hf (fun i r hi => by
      obtain ⟨u, hu, hcu⟩ := hc (i + 1) r (by simpa using hi)
      exact ⟨u, by simpa using hu, by rwa [show j + 1 + i = j + (i + 1) from by omega]⟩)
    have hfree := St.free_kill ((addRes d s (j + 1) r σ).1.drop (nm d s j)) [nm d s j] (s := nm d s j) (by simp)
    have hS := (h1.drop (nm d s j)).kill [nm d s j]
    cases hcu with
    | us _ _ _ hv hb =>
    have hname := hS.name (nm d s j) (nm_YN hd) hfree (m j) (.arr sz xs) (fun b base hmb => by
      obtain ⟨k1, k2, k3⟩ := hmw j b base hmb
      refine ⟨k1, k2, k3, fun t ht hp b' base' hm' => ?_⟩
      obtain ⟨_, hp⟩ := pres_dk hp
      rcases h4 t hp with ⟨k, hk, e1, e2⟩ | ⟨hp', e2⟩
      · rw [e2] at hm'
        exact hm k j b' base' b base (by omega) hm' hmb
      · rw [e2] at hm'
        exact hf j b base hmb t hp' b' base' hm') (by
      cases hb with
      | nil => exact .nil _
      | arr _ _ b base c e hmb hh hcs hsz hr => exact .arr _ _ b base c e (by simpa [setMu] using hmb) hh hcs hsz hr)
    have hsh : ∀ t, t ≠ nm d s j → shs { ((addRes d s (j + 1) r σ).1.drop (nm d s j)).kill [nm d s j] with blk := put (nm d s j) (.arr sz xs) (((addRes d s (j + 1) r σ).1.drop (nm d s j)).kill [nm d s j]).blk } t = shs (addRes d s (j + 1) r σ).1 t := fun t ht => by
      simp only [shs, lk_put, ht, if_false, St.kill, St.drop, lk_map, lk_rm]
      cases lk t (addRes d s (j + 1) r σ).1.blk with
      | none => rfl
      | some x => simp [shp_killB]
    refine ⟨_, hname, by simp [addRes, h2], fun i y hi => ?_, fun t ht => ?_, fun y hy t ht => ?_⟩
    · cases i with
      | zero =>
        simp only [addRes, List.getElem?_cons_zero, Option.some.injEq] at hi; subst hi
        refine ⟨v, rfl, ?_⟩
        cases hv with
        | ownx _ _ _ _ hx => simp at hx
        | own _ _ _ ad cap sz' n' hs hn hcap hmm =>
        simp only [Option.some.injEq, Prod.mk.injEq] at hs
        obtain ⟨rfl, rfl⟩ := hs
        refine .own _ _ _ ad cap sz xs.length ?_ hn hcap (hmm.imp id ?_)
        · simp [shs, addRes, lk_put_same, shp]
        · rintro ⟨b, base, e1, e2, e3⟩
          exact ⟨b, base, by simpa [setMu] using e1, e2, e3⟩
      | succ i =>
        have hi' : (addRes d s (j + 1) r σ).2[i]? = some y := by simpa [addRes] using hi
        obtain ⟨u, hu, hr⟩ := h3 i y hi'
        refine ⟨u, by simpa using hu, ?_⟩
        refine hr.mono (fun _ x => x) (fun _ x => x) (fun _ _ => rfl) (fun _ _ => rfl) (Keeps.refl w) (fun t => t = nm d s j) (fun t ht => .inr ⟨hsh t ht, by simp [setMu, ht]⟩) (fun l hl => by simp only [setMu, if_neg (Ne.symm (nm_YN hd))]; exact hl) (fun t ht => ⟨1, ?_⟩)
        subst ht
        exact h5 y (List.mem_of_getElem? hi') _ fun k hk e => by have := nm_inj e; omega
    · by_cases e : t = nm d s j
      · exact .inl ⟨j, Nat.le_refl _, e, by simp [setMu, e]⟩
      · simp only [addRes, lk_put, e, if_false] at ht
        obtain ⟨_, hp⟩ := pres_dk ht
        rcases h4 t hp with ⟨k, hk, e1, e2⟩ | ⟨hp', e2⟩
        · exact .inl ⟨k, by omega, e1, by simp [setMu, e, e2]⟩
        · exact .inr ⟨hp', by simp [setMu, e, e2]⟩
    · simp only [addRes, List.mem_cons] at hy
      rcases hy with rfl | hy
      · simp only [ment, beq_eq_false_iff_ne, ne_eq]
        exact fun e => ht j (Nat.le_refl _) e.symm
      · exact h5 y hy t fun k hk => ht k (by omega)

/-! ### The call -/
def argsA (σ : St) : List V → Option (List (Bool × FV))
  | [] => some []
  | v :: r => match frz σ 6 v, argsA σ r with
    | some (ns, ro, x), some xs => some ((ro || !ns.isEmpty, x) :: xs)
    | _, _ => none
def AllOf (Fy : Nat → Prop) (σ : St) (μ : Mu) : Nat → Prop := fun b => Fy b ∨ ∃ s, lk s σ.blk ≠ none ∧ ∃ base, μ s = some (b, base)
theorem argsA_sound (h : Sim C σ a w μ Fz Fy) : ∀ {vs : List V} {xs : List (Bool × FV)} {us : List Value}, argsA σ vs = some xs → us.length = vs.length →
    (∀ (j : Nat) (y : V), vs[j]? = some y → ∃ u, us[j]? = some u ∧ RepV μ (shs σ) Fz Fy w y u) →
    xs.length = vs.length ∧ ∀ (j : Nat) (p : Bool × FV), xs[j]? = some p → ∃ u, us[j]? = some u ∧ RepF (roF Fz (AllOf Fy σ μ) p.1) w p.2 u
  | [], xs, us, hx, _, _ => by simp [argsA] at hx; subst hx; simp
  | v :: vs, xs, us, hx, hl, hr => by
    simp only [argsA] at hx
    split at hx
    · rename_i ns ro x xs' h1 h2
      simp only [Option.some.injEq] at hx; subst hx
      cases us with
      | nil => simp at hl
      | cons u us =>
      obtain ⟨u', hu', hru⟩ := hr 0 v rfl
      simp only [List.getElem?_cons_zero, Option.some.injEq] at hu'; subst hu'
      obtain ⟨a1, a2⟩ := frz_sound h 6 h1 hru
      obtain ⟨b1, b2⟩ := argsA_sound h (us := us) h2 (by simpa using hl) (fun j y hj => by simpa using hr (j + 1) y (by simpa using hj))
      refine ⟨by simp [b1], fun j p hj => ?_⟩
      cases j with
      | zero =>
        simp only [List.getElem?_cons_zero, Option.some.injEq] at hj; subst hj
        refine ⟨u, rfl, a2.wider fun b hb => ?_⟩
        simp only
        cases hn : ns with
        | nil =>
          subst hn
          rcases hb with hb | ⟨s, hs, _⟩
          · cases ro with
            | false => simpa [roF] using hb
            | true => simp only [roF, if_true] at hb ⊢; exact .inl hb
          · simp at hs
        | cons n ns' =>
          have hro : (ro || !(n :: ns').isEmpty) = true := by simp
          simp only [hro, roF, if_true]
          rcases hb with hb | ⟨s, hs, base, hm⟩
          · cases ro with
            | false => exact .inl (h.zy _ (by simpa [roF] using hb))
            | true => exact .inl (by simpa [roF] using hb)
          · exact .inr ⟨s, a1 s hs, base, hm⟩
      | succ j => simpa using b2 j p (by simpa using hj)
    · simp at hx

def fnOf : V → Option (FuncId × List V × List V)
  | .fv ro (.fn (.func k) first captured) => some (k, first.map (.fv ro), captured.map (.fv ro))
  | .fn (.func k) first captured => some (k, first, captured)
  | _ => none
def packV : List V → V
  | [v] => v
  | vs => .tup vs
def callA (G : Pg) (σ : St) (d : Nat) (f : V) (args : List V) : Option St :=
  match fnOf f with
  | some (k, first, captured) => match argsA σ (first ++ args ++ captured) with
    | some xs => match G.ctx k xs with
      | some res => some { (addRes d (res.length == 1) 0 res σ).1 with env := put d (packV (addRes d (res.length == 1) 0 res σ).2) (addRes d (res.length == 1) 0 res σ).1.env }
      | none => none
    | none => none
  | none => none
/-- HANDED OVER: the first argument points at a box that is the callee's to change, and to keep. -/
def ValidB (P : Program) (k : FuncId) (cells args : List (Bool × FV)) (res : List TV) : Prop :=
  ∀ (w : World) (Fz Fy : Nat → Prop) (b0 : Nat) (c : Array Value) (e : TypeId) (vs : List Value), (∀ b, Fz b → Fy b) → (∀ b, Fy b → b < w.heap.size) → ¬ Fy b0 → w.heap[b0]? = some (.cells c e (0, 0)) → c.size = cells.length →
    (∀ (j : Nat) (p : Bool × FV), cells[j]? = some p → RepF (roF Fz Fy p.1) w p.2 (c.getD j undef)) → vs.length = args.length →
    (∀ (j : Nat) (p : Bool × FV), args[j]? = some p → ∃ v, vs[j]? = some v ∧ RepF (roF Fz Fy p.1) w p.2 v) →
    Calls P k (Value.pointer (some ⟨b0, 0, none⟩) :: vs).toArray w fun e w' => ∃ v us m, e = .returned v ∧ BelowX { N := 0, B := w.heap.size, w0 := w, Fz0 := Fz, X := fun b => b = b0 } w' ∧ Res (fun b => b = b0) Fz w w' res v us m
/-- IN PLACE: a list that is the caller's own is put into another order (or turned into another one as long). -/
structure ValidS (P : Program) (k : FuncId) (sz : Nat) (xs ys : List FV) : Prop where
  len : ys.length = xs.length
  ok : ∀ (i : Nat) (x : FV), ys[i]? = some x → cellsOK sz x = true
  nil : xs = [] → ∀ (w : World) (a : Option Addr) (cap : Nat), Calls P k #[.slice a 0 cap] w fun e w' => e = .returned (.tuple #[]) ∧ Below w.heap.size w w'
  run : xs ≠ [] → ∀ (w : World) (Fz Fy : Nat → Prop) (b0 base : Nat) (c : Array Value) (e : TypeId) (cap : Nat), (∀ b, Fz b → Fy b) → (∀ b, Fy b → b < w.heap.size) → ¬ Fy b0 → w.heap[b0]? = some (.cells c e (0, 0)) → xs.length ≤ cap → base + cap * sz ≤ c.size →
    (∀ (i : Nat) (x : FV) (j : Nat) (y : FV), xs[i]? = some x → (cellsOf x)[j]? = some y → RepF Fz w y (c.getD (base + (i * sz + j)) undef)) →
    Calls P k #[.slice (some ⟨b0, base, none⟩) xs.length cap] w fun ex w' => ex = .returned (.tuple #[]) ∧ BelowX { N := 0, B := w.heap.size, w0 := w, Fz0 := Fz, X := fun b => b = b0 } w' ∧
      ∃ c' : Array Value, w'.heap[b0]? = some (.cells c' e (0, 0)) ∧ c'.size = c.size ∧ ∀ (i : Nat) (x : FV) (j : Nat) (y : FV), ys[i]? = some x → (cellsOf x)[j]? = some y → RepF Fz w' y (c'.getD (base + (i * sz + j)) undef)
def Enters (P : Program) (k : FuncId) : Prop := ∃ fn, P.funcs[k]? = some fn ∧ fn.body.isNone = false ∧ (fn.name == "runtime.NumGoroutine") = false
/-- What yield hands back in a round: no more, where the loop stops there. -/
def ans (st : Option Nat) (n : Nat) : Bool :=
  match st with
  | some k => !(k == n)
  | none => true
/-- WHAT IS SAID OF AN ITERATOR AT WHAT IT HAS CAPTURED: what comes in each round, where the loop goes on behind each, or stops behind one. -/
def ItOK (P : Program) (k : FuncId) (caps : List (Bool × FV)) (zs : List (List FV)) (st : Option Nat) : Prop :=
  ∀ (W : World) (Fz Fy M0 : Nat → Prop) (vs : List Value) (y : Yd), (∀ b, Fz b → Fy b) → (∀ b, Fy b → b < W.heap.size) → vs.length = caps.length →
    (∀ (j : Nat) (p : Bool × FV), caps[j]? = some p → ∃ v, vs[j]? = some v ∧ RepF (roF Fz Fy p.1) W p.2 v) → y.n1 = W.heap.size → (∀ b, M0 b → b < W.heap.size ∧ ¬ Fy b) → y.J 0 M0 W →
    (∀ (n : Nat) (x : List FV) (M : Nat → Prop) (w : World) (us : List Value), y.J n M w → zs[n]? = some x → us.length = x.length → (∀ (j : Nat) (z : FV), x[j]? = some z → ∃ u, us[j]? = some u ∧ RepF (fun _ => False) w z u) →
      ∃ fn tmps assign body, (Instr.yield y.l us.toArray).run P w = .ok (.round y.l fn tmps assign body) w ∧ RoundIn Fence.wide 0 P y.l fn tmps assign body w (fun e w' => e = .returned (.bool (ans st n)) ∧ ∃ M', y.J (n + 1) M' w' ∧ Turn M M' w w')) →
    Calls P k (Value.func (.yield y.l) #[] #[] :: vs).toArray W fun e w' => (∃ v, e = .returned v) ∧ ∃ M', y.J zs.length M' w'
/-- WHAT IS SAID OF A CALL AT A STATE: the callee works in the caller's memory; behind it the state is another one. -/
def InlOK (P : Program) (k : FuncId) (σ : St) (args : List V) (σ' : St) (vs : List V) : Prop :=
  ∀ (C : Base) (a : Act) (w : World) (μ : Mu) (Fz Fy : Nat → Prop) (us : List Value), Sim C σ a w μ Fz Fy → us.length = args.length → (∀ (j : Nat) (y : V), args[j]? = some y → ∃ u, us[j]? = some u ∧ RepV μ (shs σ) Fz Fy w y u) →
    Calls P k us.toArray w fun e w' => ∃ rs M' μ' Fz' Fy', e = .returned (pack rs) ∧ More C M' ∧ Sim (C.withM M') σ' a w' μ' Fz' Fy' ∧ rs.length = vs.length ∧ ∀ (j : Nat) (y : V), vs[j]? = some y → ∃ u, rs[j]? = some u ∧ RepV μ' (shs σ') Fz' Fy' w' y u
structure CtxOk (G : Pg) : Prop where
  c : ∀ k xs res, G.ctx k xs = some res → Valid G.P k xs res ∧ Enters G.P k
  b : ∀ k cells xs res, G.ctxB k cells xs = some res → ValidB G.P k cells xs res ∧ Enters G.P k
  s : ∀ k sz xs ys, G.srt k sz xs = some ys → ValidS G.P k sz xs ys ∧ Enters G.P k
  l : ∀ k d σ args σ' vs, G.inl k d σ args = some (σ', vs) → InlOK G.P k σ args σ' vs ∧ Enters G.P k
  i : ∀ k caps xs, G.itr k caps = some xs → ItOK G.P k caps xs none ∧ Enters G.P k
  t : ∀ k caps xs i, G.itr k caps = some xs → G.its k caps i = true → i < xs.length → ItOK G.P k caps (xs.take (i + 1)) (some i)
theorem fnOf_sound {f : V} {k : FuncId} {first captured : List V} (hf : fnOf f = some (k, first, captured)) {v : Value} (hv : RepV μ (shs σ) Fz Fy w f v) :
    ∃ vf vc, v = .func (.func k) vf vc ∧ Cells μ (shs σ) Fz Fy w first vf ∧ Cells μ (shs σ) Fz Fy w captured vc := by
  unfold fnOf at hf
  split at hf
  · simp only [Option.some.injEq, Prod.mk.injEq] at hf
    obtain ⟨rfl, rfl, rfl⟩ := hf
    cases hv with
    | fv _ _ _ hv =>
    cases hv with
    | fn _ _ _ vf vc hs hs' hr hr' =>
    refine ⟨vf, vc, rfl, ⟨by simp [hs], fun j y hj => ?_⟩, by simp [hs'], fun j y hj => ?_⟩
    · simp only [List.getElem?_map, Option.map_eq_some_iff] at hj
      obtain ⟨x, hx, rfl⟩ := hj
      exact .fv _ _ _ (hr j x hx)
    · simp only [List.getElem?_map, Option.map_eq_some_iff] at hj
      obtain ⟨x, hx, rfl⟩ := hj
      exact .fv _ _ _ (hr' j x hx)
  · simp only [Option.some.injEq, Prod.mk.injEq] at hf
    obtain ⟨rfl, rfl, rfl⟩ := hf
    cases hv with
    | fn _ _ _ vf vc hs hs' hr hr' => exact ⟨vf, vc, rfl, ⟨hs, hr⟩, hs', hr'⟩
  · simp at hf
theorem cells_app {xs ys : List V} {as bs : Array Value} (hx : Cells μ (shs σ) Fz Fy w xs as) (hy : Cells μ (shs σ) Fz Fy w ys bs) : Cells μ (shs σ) Fz Fy w (xs ++ ys) (as ++ bs) := by
  refine ⟨by simp [hx.1, hy.1], fun j y hj => ?_⟩
  rcases get_app hj with ⟨h1, h2⟩ | ⟨h1, h2⟩
  · have := hx.2 j y h2
    have e : (as ++ bs).getD j undef = as.getD j undef := by
      have : j < as.size := by rw [hx.1]; exact h1
      simp [Array.getD_eq_getD_getElem?, Array.getElem?_append, this]
    rw [e]; exact this
  · have := hy.2 _ y h2
    have e : (as ++ bs).getD j undef = bs.getD (j - xs.length) undef := by
      have hng : ¬ j < xs.length := by omega
      simp [Array.getD_eq_getD_getElem?, Array.getElem?_append, hx.1, hng]
    rw [e]; exact this
/-- Behind a call: the frame's state, with the results. What was handed over (X) is the frame's own no more. -/
theorem after_call (h : Sim C σ a w μ Fz Fy) {X : Nat → Prop} (hX : ∀ b, X b → C.mine b ∧ b < w.heap.size ∧ (¬ Fy b ∧ ¬ C.M b) ∧ ∀ t, lk t σ.blk ≠ none → ∀ base, μ t ≠ some (b, base)) {w' : World} (hst : Stays C σ w w' μ Fy) {d : Nat} (hd : d < C.N) {res : List TV} {v : Value} {us : List Value} {m : Nat → Option (Nat × Nat)} (hR : Res X Fz w w' res v us m) :
    ∃ μ' Fz' Fy', Sim C { (addRes d (res.length == 1) 0 res σ).1 with env := put d (packV (addRes d (res.length == 1) 0 res σ).2) (addRes d (res.length == 1) 0 res σ).1.env } (a.put (some d) v) w' μ' Fz' Fy' := by
  have h1 := h.stays hst
  have h2 : Sim C σ a w' μ (newX X Fz w w' m) (fun b => Fy b ∨ ((w.heap.size ≤ b ∨ X b) ∧ b < w'.heap.size ∧ ∀ j base, m j ≠ some (b, base))) := by
    refine h1.fix (fun b hb => .inl hb) (fun b hb => .inl hb) (fun b hb => hb.imp (h.zy b) id) (fun b hb => ?_) (fun b hb => ?_) (fun b hb => ?_) (fun s hp b base hm hb => ?_) (fun b hM hb => ?_)
    · rcases hb with hb | ⟨_, hb, _⟩
      · exact Nat.lt_of_lt_of_le (h.yl b hb) hst.size
      · exact hb
    · rcases hb with hb | ⟨hb | hb, _, _⟩
      · exact h.z0 b hb
      · exact .inr (.inl (Nat.le_trans h.big hb))
      · exact .inr (hX b hb).1
    · rcases hb with hb | ⟨hb | hb, _, _⟩
      · exact h.y0 b hb
      · exact .inr (.inl (Nat.le_trans h.big hb))
      · exact .inr (hX b hb).1
    · have hl := h.live s hp b base hm
      rcases hb with hb | ⟨hb | hb, _, _⟩
      · exact hl.2.2 hb
      · omega
      · exact (hX b hb).2.2.2 s hp base hm
    · have hl := h.fm b hM
      rcases hb with hb | ⟨hb | hb, _, _⟩
      · exact hl.2.1 hb
      · omega
      · exact (hX b hb).2.2.1.2 hM
  obtain ⟨μ', h3, h4, h5, _, _⟩ := addRes_sound (σ := σ) (a := a) (w := w') (μ := μ) d (res.length == 1) m hR.apart (fun j b base hm => by
    obtain ⟨n1, n2⟩ := hR.new j b base hm
    refine ⟨?_, n2, ?_, ?_⟩
    · rcases n1 with n1 | n1
      · exact .inl (Nat.le_trans h.big n1)
      · exact (hX b n1).1
    · rintro (hb | ⟨_, _, hb⟩)
      · rcases n1 with n1 | n1
        · exact absurd (h.yl b hb) (by omega)
        · exact (hX b n1).2.2.1.1 hb
      · exact hb j base hm
    · intro hM
      rcases n1 with n1 | n1
      · exact absurd (h.fm b hM).1 (by omega)
      · exact (hX b n1).2.2.1.2 hM) (Nat.lt_of_lt_of_le hd h.small) res 0 us h2 (fun k b base hm t ht b' base' hm' e => by
    subst e
    rcases (hR.new k b' base hm).1 with n1 | n1
    · have := (h.live t ht b' base' hm').2.1
      omega
    · exact (hX b' n1).2.2.2 t ht base' hm') (fun i r hi => by
    obtain ⟨u, hu, hc⟩ := hR.comp i r hi
    exact ⟨u, hu, by rw [Nat.zero_add]; exact hc⟩)
  have hfin : RepV μ' (shs (addRes d (res.length == 1) 0 res σ).1) (newX X Fz w w' m) (fun b => Fy b ∨ ((w.heap.size ≤ b ∨ X b) ∧ b < w'.heap.size ∧ ∀ j base, m j ≠ some (b, base))) w' (packV (addRes d (res.length == 1) 0 res σ).2) v := ?_
  · exact ⟨μ', _, _, h3.set d hd _ _ hfin⟩
  rw [hR.val]
  by_cases hone : res.length = 1
  · have hl2 : (addRes d (res.length == 1) 0 res σ).2.length = 1 := by rw [h4, hone]
    have hus : us.length = 1 := by rw [hR.len, hone]
    obtain ⟨y, hy⟩ := List.length_eq_one_iff.1 hl2
    obtain ⟨u, hu⟩ := List.length_eq_one_iff.1 hus
    obtain ⟨u', hu', hr⟩ := h5 0 y (by rw [hy]; rfl)
    rw [hu] at hu'
    simp only [List.getElem?_cons_zero, Option.some.injEq] at hu'; subst hu'
    rw [hy, hu]
    exact hr
  · have hpk : ∀ us : List Value, us.length ≠ 1 → pack us = .tuple us.toArray := by
      intro us hne
      match us, hne with
      | [], _ => rfl
      | _ :: _ :: _, _ => rfl
    have hpv : ∀ us : List V, us.length ≠ 1 → packV us = .tup us := by
      intro us hne
      match us, hne with
      | [], _ => rfl
      | _ :: _ :: _, _ => rfl
    rw [hpk us (by rw [hR.len]; exact hone), hpv _ (by rw [h4]; exact hone)]
    refine .tup _ _ (by simp [hR.len, h4]) fun j y hj => ?_
    obtain ⟨u, hu, hr⟩ := h5 j y hj
    have : us.toArray.getD j undef = u := by simp [Array.getD_eq_getD_getElem?, hu]
    rw [this]; exact hr

theorem callA_sound (hT : TOk G) (hC : CtxOk G) (h : Sim C σ a w μ Fz Fy) {d : Nat} (hd : d < C.N) {f : V} {args : List V} {σ' : St} (hs : callA G σ d f args = some σ') {o : Oper} {fo : Operand} {ao : Array Operand} {ats : Array TypeId}
    (ho : o.op = .call ⟨.value fo, ao, ats⟩) (hdst : o.dst = some d) (hf : RepV μ (shs σ) Fz Fy w f (a.eval fo)) (ha : Cells μ (shs σ) Fz Fy w args (ao.map a.eval)) {K : Act → World → Prop} {Q : Exit → Act → World → Prop}
    (hK : ∀ a' w' μ' Fz' Fy', Sim C σ' a' w' μ' Fz' Fy' → K a' w') : o.wp G.P a w K Q := by
  unfold callA at hs
  split at hs
  · rename_i k first captured hfn
    split at hs
    · rename_i xs hxs
      split at hs
      · rename_i res hres
        simp only [Option.some.injEq] at hs
        obtain ⟨hval, fn, hfn1, hfn2, hfn3⟩ := hC.c k xs res hres
        obtain ⟨vf, vc, hve, hcf, hcc⟩ := fnOf_sound hfn hf
        have hall := cells_app (cells_app hcf ha) hcc
        obtain ⟨x1, x2⟩ := argsA_sound h (us := (vf ++ ao.map a.eval ++ vc).toList) hxs (by rw [Array.length_toList, hall.1]) (fun j y hj => by
          have := hall.2 j y hj
          have hjl : j < (vf ++ ao.map a.eval ++ vc).size := by rw [hall.1]; exact (List.getElem?_eq_some_iff.1 hj).1
          refine ⟨(vf ++ ao.map a.eval ++ vc)[j], ?_, ?_⟩
          · rw [Array.getElem?_toList, Array.getElem?_eq_getElem hjl]
          · rw [Array.getD_eq_getD_getElem?, Array.getElem?_eq_getElem hjl] at this
            exact this)
        have hall2 : ∀ b, AllOf Fy σ μ b → b < w.heap.size := by
          rintro b (hb | ⟨s, hp, base, hm⟩)
          · exact h.yl b hb
          · exact (h.live s hp b base hm).2.1
        have hcall := hval w Fz (AllOf Fy σ μ) (vf ++ ao.map a.eval ++ vc).toList (fun b hb => .inl (h.zy b hb)) hall2 (by rw [Array.length_toList, hall.1, x1]) x2
        have hrun : (execOp a.eval o).run G.P w = .ok (.enter k (vf ++ ao.map a.eval ++ vc)) w := by
          unfold execOp
          simp only [ho, resolve, Deferred.ofValue, hve, Sem.run_bind, Sem.run_pure, Result.andThen_ok, invoke, callFunc, run_program, hfn1]
          simp [hfn2, hfn3]
        unfold Oper.wp
        rw [hrun, Oper.upon_enter]
        simp only [Array.toArray_toList] at hcall
        refine hcall.mono ?_
        rintro e w' ⟨v, us, m, rfl, hbelow, hR⟩
        simp only
        obtain ⟨μ', Fz', Fy', hS⟩ := after_call h (X := noX) (fun b hb => hb.elim) (Stays.of_below h hbelow) hd hR
        subst hs
        rw [hdst]
        exact hK _ _ _ _ _ hS
      · simp at hs
    · simp at hs
  · simp at hs
theorem pack_rep {μ sh : Mu} {Fz Fy : Nat → Prop} {w : World} {vs : List V} {rs : List Value} (hl : rs.length = vs.length) (hr : ∀ (j : Nat) (y : V), vs[j]? = some y → ∃ u, rs[j]? = some u ∧ RepV μ sh Fz Fy w y u) : RepV μ sh Fz Fy w (packV vs) (pack rs) := by
  have many : ∀ (vs : List V) (rs : List Value), vs.length ≠ 1 → rs.length = vs.length → packV vs = .tup vs ∧ pack rs = .tuple rs.toArray := by
    intro vs rs hne hl
    match vs, rs, hne, hl with
    | [], [], _, _ => exact ⟨rfl, rfl⟩
    | _ :: _ :: _, _ :: _ :: _, _, _ => exact ⟨rfl, rfl⟩
  by_cases h1 : vs.length = 1
  · match vs, rs, h1, hl, hr with
    | [y], [u], _, _, hr =>
      obtain ⟨u', hu, h⟩ := hr 0 y rfl
      simp only [List.getElem?_cons_zero, Option.some.injEq] at hu; subst hu
      exact h
  · obtain ⟨e1, e2⟩ := many vs rs h1 hl
    rw [e1, e2]
    refine .tup _ _ (by simp [hl]) fun j y hj => ?_
    obtain ⟨u, hu, h⟩ := hr j y hj
    have : rs.toArray.getD j undef = u := by simp [Array.getD_eq_getD_getElem?, hu]
    rw [this]; exact h
end
end Go.Proofs.Ytoafhoihigfllaa.E
