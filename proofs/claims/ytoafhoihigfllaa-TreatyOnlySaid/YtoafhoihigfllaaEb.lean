/-
  The engine, part b: a state of a frame, and what it means that a frame and a world of the model stand as it says; how that lasts. Conditions: none; it is stated of any program.
-/
import Derived.Test.YtoafhoihigfllaaEa
namespace Go.Proofs.Ytoafhoihigfllaa.E
open Go Go.RowKit
set_option linter.unusedVariables false

abbrev Mu := Nat → Option (Nat × Nat)
def shs (σ : St) : Mu := fun s => (lk s σ.blk).map shp

/-- A block of the frame's own holds what the state says. -/
inductive RepB (μ sh : Mu) (Fz Fy : Nat → Prop) (w : World) (s : Nat) : Blk → Prop where
  | nil (sz : Nat) : RepB μ sh Fz Fy w s (.arr sz [])
  | arr (sz : Nat) (xs : List FV) (b base : Nat) (c : Array Value) (e : TypeId) (hm : μ s = some (b, base)) (hh : w.heap[b]? = some (.cells c e (0, 0))) (hc : base + xs.length * sz ≤ c.size)
      (hsz : ∀ (i : Nat) (x : FV), xs[i]? = some x → cellsOK sz x = true)
      (hr : ∀ (i : Nat) (x : FV) (j : Nat) (y : FV), xs[i]? = some x → (cellsOf x)[j]? = some y → RepF Fz w y (c.getD (base + (i * sz + j)) undef)) : RepB μ sh Fz Fy w s (.arr sz xs)
  | box (cells : List V) (b : Nat) (c : Array Value) (e : TypeId) (hm : μ s = some (b, 0)) (hh : w.heap[b]? = some (.cells c e (0, 0))) (hc : c.size = cells.length)
      (hr : ∀ (j : Nat) (y : V), cells[j]? = some y → RepV μ sh Fz Fy w y (c.getD j undef)) : RepB μ sh Fz Fy w s (.box cells)
  | mp (es : List (FV × FV)) (b : Nat) (c : Array MapEntry) (k : Nat) (hm : μ s = some (b, 0)) (hh : w.heap[b]? = some (.map c k)) (hc : c.size = es.length)
      (hr : ∀ (j : Nat) (y : FV × FV), es[j]? = some y → ∃ m, c[j]? = some m ∧ RepF Fz w y.1 m.key ∧ RepF Fz w y.2 m.val) : RepB μ sh Fz Fy w s (.mp es)

/-- What an iterator leaves as it is. -/
structure Grow (n1 : Nat) (M : Nat → Prop) (w w' : World) : Prop where
  os : w'.os = w.os
  tape : w'.tape = w.tape
  output : w'.output = w.output
  size : w.heap.size ≤ w'.heap.size
  keeps : Keeps w w'
  block : ∀ b, b < n1 ∨ M b → w'.heap[b]? = w.heap[b]?
/-- What a round leaves as it is. -/
structure Turn (M M' : Nat → Prop) (w w' : World) : Prop where
  os : w'.os = w.os
  tape : w'.tape = w.tape
  output : w'.output = w.output
  size : w.heap.size ≤ w'.heap.size
  keeps : Keeps w w'
  block : ∀ b, b < w.heap.size → ¬ M b → w'.heap[b]? = w.heap[b]?
  sub : ∀ b, M b → M' b
  new : ∀ b, M' b → M b ∨ w.heap.size ≤ b
  lt : ∀ b, M' b → b < w'.heap.size
/-- The loop that an iterator serves: its number; what holds behind so many rounds; what comes in each. -/
structure Yd where
  l : Nat
  n1 : Nat
  J : Nat → (Nat → Prop) → World → Prop
  stab : ∀ n M w w', J n M w → Grow n1 M w w' → J n M w'
/-- What stays as it is through a frame: the number of its slots; the heap's size when it began, and the world then; what was fixed then. -/
structure Base where
  N : Nat
  B : Nat
  w0 : World
  Fz0 : Nat → Prop
  X : Nat → Prop := fun _ => False
  Fy0 : Nat → Prop := fun _ => True
  M : Nat → Prop := fun _ => False
  yl : Option Yd := none
  rd : Option Nat := none
  out : Nat → Value := fun _ => undef
def Base.withM (C : Base) (M : Nat → Prop) : Base := { C with M := M }
/-- What a run leaves of M: it grows by new blocks alone. -/
structure More (C : Base) (M' : Nat → Prop) : Prop where
  sub : ∀ b, C.M b → M' b
  new : ∀ b, M' b → C.M b ∨ C.B ≤ b
theorem More.refl (C : Base) : More C C.M := ⟨fun _ x => x, fun _ x => .inl x⟩
theorem More.trans {C : Base} {M' M'' : Nat → Prop} (h : More C M') (h' : More (C.withM M') M'') : More C M'' :=
  ⟨fun b x => h'.sub b (h.sub b x), fun b x => (h'.new b x).elim (fun y => h.new b y) .inr⟩
def Base.get (C : Base) (a : Act) (k : Nat) : Value := if k < GH then a.tmps.getD k undef else C.out k
/-- A block that is the frame's to change: new, or handed over. -/
def Base.mine (C : Base) (b : Nat) : Prop := C.B ≤ b ∨ C.X b
/-- What was there is as it was, but what was handed over. -/
structure BelowX (C : Base) (w' : World) : Prop where
  os : w'.os = C.w0.os
  tape : w'.tape = C.w0.tape
  output : w'.output = C.w0.output
  size : C.w0.heap.size ≤ w'.heap.size
  block : ∀ k, k < C.B → ¬ C.X k → w'.heap[k]? = C.w0.heap[k]?
  kept : ∀ (k : Nat) (c : Array Value) (e : TypeId) (fr : Nat × Nat), C.X k → k < C.B → C.w0.heap[k]? = some (.cells c e fr) → ∃ c' : Array Value, w'.heap[k]? = some (.cells c' e fr) ∧ c'.size = c.size
theorem BelowX.trans {C : Base} {w w' : World} (h : BelowX C w) (h' : Below C.B w w') : BelowX C w' :=
  ⟨h'.os.trans h.os, h'.tape.trans h.tape, h'.output.trans h.output, Nat.le_trans h.size h'.size, fun k hk hx => (h'.block k hk).trans (h.block k hk hx), fun k c e fr hx hk hc => by
    obtain ⟨c', h1, h2⟩ := h.kept k c e fr hx hk hc
    exact ⟨c', (h'.block k hk).trans h1, h2⟩⟩
theorem BelowX.setRow {C : Base} {w : World} (h : BelowX C w) {g : Nat} (hg : C.mine g) {c0 : Array Value} {e0 : TypeId} {fr0 : Nat × Nat} (hh : w.heap[g]? = some (.cells c0 e0 fr0)) (cs : Array Value) (hs : cs.size = c0.size) : BelowX C (w.setRow g cs) :=
  ⟨h.os, h.tape, h.output, by have := h.size; simpa [World.setRow] using this, fun k hk hx => (setRow_other w g k cs (fun e => hg.elim (fun h1 => by omega) fun h2 => hx (e ▸ h2))).trans (h.block k hk hx), fun k c e fr hx hk hc => by
    obtain ⟨c', h1, h2⟩ := h.kept k c e fr hx hk hc
    by_cases ek : k = g
    · subst ek
      rw [hh] at h1
      simp only [Option.some.injEq, Obj.cells.injEq] at h1
      obtain ⟨rfl, rfl, rfl⟩ := h1
      exact ⟨cs, setRow_heap w k c0 cs e0 fr0 hh, hs.trans h2⟩
    · exact ⟨c', (setRow_other w g k cs ek).trans h1, h2⟩⟩
theorem BelowX.of_below {C : Base} {w : World} (h : Below C.B C.w0 w) : BelowX C w := ⟨h.os, h.tape, h.output, h.size, fun k hk _ => h.block k hk, fun k c e fr _ hk hc => ⟨c, (h.block k hk).trans hc, rfl⟩⟩
theorem BelowX.below {C : Base} {w : World} (h : BelowX C w) (hx : ∀ b, ¬ C.X b) : Below C.B C.w0 w := ⟨h.os, h.tape, h.output, h.size, fun k hk => h.block k hk (hx k)⟩

structure Sim (C : Base) (σ : St) (a : Act) (w : World) (μ : Mu) (Fz Fy : Nat → Prop) : Prop where
  defers : ∀ d ∈ a.defers, ∃ D, d.target = .collected D ∧ Fy D ∧ (C.rd = none → C.mine D) ∧ w.heap[D]? = some (.deferred (some []))
  dist : a.defers.Pairwise (fun d e => d.target ≠ e.target)
  size : a.tmps.size = C.N
  small : C.N ≤ 90000
  env : ∀ k v, lk k σ.env = some v → True ∧ RepV μ (shs σ) Fz Fy w v (C.get a k)
  blk : ∀ s b, lk s σ.blk = some b → RepB μ (shs σ) Fz Fy w s b
  live : ∀ s, lk s σ.blk ≠ none → ∀ b base, μ s = some (b, base) → C.mine b ∧ b < w.heap.size ∧ ¬ Fy b
  inj : ∀ s t, lk s σ.blk ≠ none → lk t σ.blk ≠ none → s ≠ t → ∀ b base b' base', μ s = some (b, base) → μ t = some (b', base') → b ≠ b'
  zy : ∀ b, Fz b → Fy b
  yl : ∀ b, Fy b → b < w.heap.size
  z0 : ∀ b, Fz b → C.Fz0 b ∨ C.mine b
  y0 : ∀ b, Fy b → C.Fy0 b ∨ C.mine b
  below : BelowX C w
  big : C.B ≤ w.heap.size
  fm : ∀ b, C.M b → b < w.heap.size ∧ ¬ Fy b ∧ ∀ s, lk s σ.blk ≠ none → ∀ base, μ s ≠ some (b, base)
  yd : ∀ y, C.yl = some y → μ YN = some (y.l, 0) ∧ y.J σ.tr.length C.M w ∧ y.n1 ≤ C.B ∧ (∀ b, b < y.n1 → C.X b → C.M b) ∧ ∀ b, C.M b → C.mine b
  mm : ∀ b, C.M b → C.mine b
  lp : ∀ l, C.rd = some l → l < C.B ∧ ¬ C.X l ∧ ∃ r, C.w0.heap[l]? = some (.loop r)

theorem shs_none {σ : St} {s : Nat} (h : lk s σ.blk = none) : shs σ s = none := by simp [shs, h]

theorem RepB.mono {μ sh μ' sh' : Mu} {Fz Fy Fz' Fy' : Nat → Prop} {w w' : World} {s : Nat} (hz : ∀ b, Fz b → Fz' b) (hy : ∀ b, Fy b → Fy' b)
    (hwz : ∀ b, Fz b → w'.heap[b]? = w.heap[b]?) (hwy : ∀ b, Fy b → w'.heap[b]? = w.heap[b]?) (hk : Keeps w w') (D : Nat → Prop)
    (hs : ∀ s, ¬ D s → sh' s = none ∨ (sh' s = sh s ∧ μ' s = μ s)) (hY : ∀ l, μ YN = some (l, 0) → μ' YN = some (l, 0)) (hms : μ' s = μ s) (hb : ∀ b base, μ s = some (b, base) → w'.heap[b]? = w.heap[b]?) {x : Blk}
    (hd : ∀ t, D t → ∀ cells, x = .box cells → ∀ y ∈ cells, ∃ n, ment n t y = false) (h : RepB μ sh Fz Fy w s x) : RepB μ' sh' Fz' Fy' w' s x := by
  cases h with
  | nil sz => exact .nil sz
  | arr sz xs b base c e hm hh hc hsz hr => exact .arr sz xs b base c e (hms.trans hm) ((hb b base hm).trans hh) hc hsz fun i x j y h1 h2 => (hr i x j y h1 h2).mono hz hwz
  | box cells b c e hm hh hc hr =>
    exact .box cells b c e (hms.trans hm) ((hb b 0 hm).trans hh) hc fun j y hj => (hr j y hj).mono hz hy hwz hwy hk D hs hY fun t ht => hd t ht cells rfl y (List.mem_of_getElem? hj)
  | mp es b c k hm hh hc hr =>
    refine .mp es b c k (hms.trans hm) ((hb b 0 hm).trans hh) hc fun j y hj => ?_
    obtain ⟨m, h1, h2, h3⟩ := hr j y hj
    exact ⟨m, h1, h2.mono hz hwz, h3.mono hz hwz⟩

/-! ### Letting go of a block; of values that speak of a name -/
def St.drop (s : Nat) (σ : St) : St := { σ with blk := rm s σ.blk }
theorem Sim.drop {C : Base} {σ : St} {a : Act} {w : World} {μ : Mu} {Fz Fy : Nat → Prop} (h : Sim C σ a w μ Fz Fy) (s : Nat) : Sim C (σ.drop s) a w μ Fz Fy := by
  have hs : ∀ t, ¬ (fun _ : Nat => False) t → shs (σ.drop s) t = none ∨ (shs (σ.drop s) t = shs σ t ∧ μ t = μ t) := fun t _ => by
    by_cases e : t = s
    · left; simp [shs, St.drop, lk_rm, e]
    · right; simp [shs, St.drop, lk_rm, e]
  have hp : ∀ t, lk t (σ.drop s).blk ≠ none → lk t σ.blk ≠ none := fun t ht => by
    by_cases e : t = s <;> simp [St.drop, lk_rm, e] at ht ⊢; exact ht
  refine { h with env := fun k v hk => ⟨(h.env k v hk).1, ?_⟩, blk := fun t b hb => ?_, live := fun t ht => h.live t (hp t ht), inj := fun t u ht hu => h.inj t u (hp t ht) (hp u hu), fm := fun b hb => ⟨(h.fm b hb).1, (h.fm b hb).2.1, fun t ht => (h.fm b hb).2.2 t (hp t ht)⟩ }
  · exact (h.env k v hk).2.mono (fun _ x => x) (fun _ x => x) (fun _ _ => rfl) (fun _ _ => rfl) (Keeps.refl w) (fun _ => False) hs (fun _ x => x) (fun _ x => x.elim)
  · have hb' : lk t σ.blk = some b := by
      by_cases e : t = s
      · subst e; simp [St.drop, lk_rm] at hb
      · simpa [St.drop, lk_rm, e] using hb
    exact (h.blk t b hb').mono (fun _ x => x) (fun _ x => x) (fun _ _ => rfl) (fun _ _ => rfl) (Keeps.refl w) (fun _ => False) hs (fun _ x => x) rfl (fun _ _ _ => rfl) (fun _ x => x.elim)

/-- A block that is let go of is fixed: what it holds stays. -/
theorem Sim.freeze {C : Base} {σ : St} {a : Act} {w : World} {μ : Mu} {Fz Fy : Nat → Prop} (h : Sim C σ a w μ Fz Fy) (s : Nat) (hs : lk s σ.blk ≠ none) :
    Sim C (σ.drop s) a w μ (fun b => Fz b ∨ ∃ base, μ s = some (b, base)) (fun b => Fy b ∨ ∃ base, μ s = some (b, base)) := by
  have h' := h.drop s
  have hp : ∀ t, lk t (σ.drop s).blk ≠ none → t ≠ s ∧ lk t σ.blk ≠ none := fun t ht => by
    by_cases e : t = s <;> simp [St.drop, lk_rm, e] at ht ⊢; exact ht
  refine { defers := fun d hd => let ⟨D, e1, e2, e3⟩ := h'.defers d hd; ⟨D, e1, .inl e2, e3⟩, size := h'.size, env := fun k v hk => ⟨(h'.env k v hk).1, ?_⟩, blk := fun t b hb => ?_, live := fun t ht b base hm => ?_, inj := h'.inj, zy := fun b hb => hb.imp (h.zy b) id, yl := fun b hb => ?_, z0 := fun b hb => ?_, y0 := fun b hb => ?_, below := h'.below, big := h'.big, dist := h'.dist, small := h'.small, fm := fun b hb => ⟨(h'.fm b hb).1, fun hy => hy.elim (h'.fm b hb).2.1 fun ⟨base, e⟩ => (h.fm b hb).2.2 s hs base e, (h'.fm b hb).2.2⟩, yd := h'.yd, lp := h'.lp, mm := h'.mm }
  · exact (h'.env k v hk).2.mono (fun _ x => .inl x) (fun _ x => .inl x) (fun _ _ => rfl) (fun _ _ => rfl) (Keeps.refl w) (fun _ => False) (fun _ _ => .inr ⟨rfl, rfl⟩) (fun _ x => x) (fun _ x => x.elim)
  · exact (h'.blk t b hb).mono (fun _ x => .inl x) (fun _ x => .inl x) (fun _ _ => rfl) (fun _ _ => rfl) (Keeps.refl w) (fun _ => False) (fun _ _ => .inr ⟨rfl, rfl⟩) (fun _ x => x) rfl (fun _ _ _ => rfl) (fun _ x => x.elim)
  · obtain ⟨h1, h2⟩ := hp t ht
    obtain ⟨k1, k2, k3⟩ := h.live t h2 b base hm
    refine ⟨k1, k2, ?_⟩
    rintro (k | ⟨base', hm'⟩)
    · exact k3 k
    · exact h.inj t s h2 hs h1 b base b base' hm hm' rfl
  · rcases hb with hb | ⟨base, hm⟩
    · exact h.yl b hb
    · exact (h.live s hs b base hm).2.1
  · rcases hb with hb | ⟨base, hm⟩
    · exact h.z0 b hb
    · exact .inr (h.live s hs b base hm).1
  · rcases hb with hb | ⟨base, hm⟩
    · exact h.y0 b hb
    · exact .inr (h.live s hs b base hm).1

def killV (ns : List Nat) (v : V) : V := if ns.any (fun s => ment 5 s v) then .top else v
def killB (ns : List Nat) : Blk → Blk
  | .box cells => .box (cells.map (killV ns))
  | b => b
def St.kill (ns : List Nat) (σ : St) : St := { σ with env := σ.env.map fun e => (e.1, killV ns e.2), blk := σ.blk.map fun e => (e.1, killB ns e.2) }
theorem shp_killB (ns : List Nat) (b : Blk) : shp (killB ns b) = shp b := by cases b <;> simp [killB, shp]
theorem ment_killV (ns : List Nat) (v : V) {s : Nat} (hs : s ∈ ns) : ∃ n, ment n s (killV ns v) = false := by
  unfold killV
  split
  · exact ⟨1, rfl⟩
  · rename_i h
    simp only [List.any_eq_true, not_exists, not_and] at h
    exact ⟨5, by simpa using h s hs⟩
theorem shs_kill (ns : List Nat) (σ : St) : shs (σ.kill ns) = shs σ := by
  funext s
  simp only [shs, St.kill, lk_map, Option.map_map]
  congr 1
  funext b
  exact shp_killB ns b
theorem Sim.kill {C : Base} {σ : St} {a : Act} {w : World} {μ : Mu} {Fz Fy : Nat → Prop} (h : Sim C σ a w μ Fz Fy) (ns : List Nat) : Sim C (σ.kill ns) a w μ Fz Fy := by
  have hp : ∀ t, lk t (σ.kill ns).blk ≠ none → lk t σ.blk ≠ none := fun t ht => by
    simp only [St.kill, lk_map] at ht
    intro e; simp [e] at ht
  refine { h with env := fun k v hk => ?_, blk := fun t b hb => ?_, live := fun t ht => h.live t (hp t ht), inj := fun t u ht hu => h.inj t u (hp t ht) (hp u hu), fm := fun b hb => ⟨(h.fm b hb).1, (h.fm b hb).2.1, fun t ht => (h.fm b hb).2.2 t (hp t ht)⟩ }
  · simp only [St.kill, lk_map, Option.map_eq_some_iff] at hk
    obtain ⟨v', hv', rfl⟩ := hk
    refine ⟨(h.env k v' hv').1, ?_⟩
    rw [shs_kill]
    unfold killV
    split
    · exact .top _
    · exact (h.env k v' hv').2
  · simp only [St.kill, lk_map, Option.map_eq_some_iff] at hb
    obtain ⟨b', hb', rfl⟩ := hb
    rw [shs_kill]
    have := h.blk t b' hb'
    cases this with
    | nil sz => exact .nil sz
    | arr sz xs b base c e hm hh hc hsz hr => exact .arr sz xs b base c e hm hh hc hsz hr
    | mp es b c k hm hh hc hr => exact .mp es b c k hm hh hc hr
    | box cells b c e hm hh hc hr =>
      refine .box _ b c e hm hh (by simpa using hc) fun j y hj => ?_
      simp only [List.getElem?_map, Option.map_eq_some_iff] at hj
      obtain ⟨y', hy', rfl⟩ := hj
      unfold killV
      split
      · exact .top _
      · exact hr j y' hy'

/-- Nobody speaks of the name s. -/
def St.free (σ : St) (s : Nat) : Prop := (∀ k v, lk k σ.env = some v → ∃ n, ment n s v = false) ∧ ∀ t cells, lk t σ.blk = some (.box cells) → ∀ y ∈ cells, ∃ n, ment n s y = false
theorem St.free_kill (σ : St) (ns : List Nat) {s : Nat} (hs : s ∈ ns) : (σ.kill ns).free s := by
  refine ⟨fun k v hk => ?_, fun t cells ht y hy => ?_⟩
  · simp only [St.kill, lk_map, Option.map_eq_some_iff] at hk
    obtain ⟨v', _, rfl⟩ := hk
    exact ment_killV ns v' hs
  · simp only [St.kill, lk_map, Option.map_eq_some_iff] at ht
    obtain ⟨b', _, hb⟩ := ht
    cases b' with
    | arr => simp [killB] at hb
    | mp => simp [killB] at hb
    | box cells' =>
      simp only [killB, Blk.box.injEq] at hb
      subst hb
      obtain ⟨y', _, rfl⟩ := List.mem_map.1 hy
      exact ment_killV ns y' hs
theorem St.free_drop {σ : St} {s t : Nat} (h : σ.free s) : (σ.drop t).free s := by
  refine ⟨h.1, fun u cells hu => h.2 u cells ?_⟩
  by_cases e : u = t
  · subst e; simp [St.drop, lk_rm] at hu
  · simpa [St.drop, lk_rm, e] using hu

/-- What a step of the world keeps of a frame's state. -/
structure Stays (C : Base) (σ : St) (w w' : World) (μ : Mu) (Fy : Nat → Prop) : Prop where
  keeps : Keeps w w'
  fixed : ∀ b, Fy b → w'.heap[b]? = w.heap[b]?
  own : ∀ s, lk s σ.blk ≠ none → ∀ b base, μ s = some (b, base) → w'.heap[b]? = w.heap[b]?
  below : BelowX C w'
  size : w.heap.size ≤ w'.heap.size
  rest : ∀ b, C.M b → w'.heap[b]? = w.heap[b]?
theorem Stays.of_below {C : Base} {σ : St} {a : Act} {w w' : World} {μ : Mu} {Fz Fy : Nat → Prop} (h : Sim C σ a w μ Fz Fy) (hb : Below w.heap.size w w') : Stays C σ w w' μ Fy :=
  { keeps := Keeps.of_below hb, fixed := fun b hy => hb.block b (h.yl b hy), own := fun s hs b base hm => hb.block b (h.live s hs b base hm).2.1,
    below := h.below.trans (hb.mono h.big), size := hb.size, rest := fun b hm => hb.block b (h.fm b hm).1 }
theorem Sim.yd_stays {C : Base} {σ : St} {a : Act} {w w' : World} {μ : Mu} {Fz Fy : Nat → Prop} (h : Sim C σ a w μ Fz Fy) (hk : Keeps w w') (hb : BelowX C w') (hz : w.heap.size ≤ w'.heap.size) (hr : ∀ b, C.M b → w'.heap[b]? = w.heap[b]?) :
    ∀ y, C.yl = some y → μ YN = some (y.l, 0) ∧ y.J σ.tr.length C.M w' ∧ y.n1 ≤ C.B ∧ (∀ b, b < y.n1 → C.X b → C.M b) ∧ ∀ b, C.M b → C.mine b := fun y hy => by
  obtain ⟨h1, h2, h3, h4⟩ := h.yd y hy
  refine ⟨h1, y.stab _ _ _ _ h2 ⟨hb.os.trans h.below.os.symm, hb.tape.trans h.below.tape.symm, hb.output.trans h.below.output.symm, hz, hk, fun b hc => ?_⟩, h3, h4⟩
  rcases hc with hc | hc
  · by_cases hx : C.X b
    · exact hr b (h4.1 b hc hx)
    · exact (hb.block b (by omega) hx).trans (h.below.block b (by omega) hx).symm
  · exact hr b hc
theorem Sim.stays {C : Base} {σ : St} {a : Act} {w w' : World} {μ : Mu} {Fz Fy : Nat → Prop} (h : Sim C σ a w μ Fz Fy) (hw : Stays C σ w w' μ Fy) : Sim C σ a w' μ Fz Fy := by
  refine { defers := fun d hd => let ⟨D, e1, e2, e3, e4⟩ := h.defers d hd; ⟨D, e1, e2, e3, (hw.fixed D e2).trans e4⟩, dist := h.dist, small := h.small, size := h.size, env := fun k v hk => ⟨(h.env k v hk).1, ?_⟩, blk := fun t b hb => ?_, live := fun t ht b base hm => ?_, inj := h.inj, zy := h.zy, yl := fun b hb => ?_, z0 := h.z0, y0 := h.y0, below := hw.below, big := Nat.le_trans h.big hw.size, lp := h.lp, mm := h.mm,
           fm := fun b hb => ⟨Nat.lt_of_lt_of_le (h.fm b hb).1 hw.size, (h.fm b hb).2⟩, yd := h.yd_stays hw.keeps hw.below hw.size hw.rest }
  · exact (h.env k v hk).2.mono (fun _ x => x) (fun _ x => x) (fun b x => hw.fixed b (h.zy b x)) hw.fixed hw.keeps (fun _ => False) (fun _ _ => .inr ⟨rfl, rfl⟩) (fun _ x => x) (fun _ x => x.elim)
  · exact (h.blk t b hb).mono (fun _ x => x) (fun _ x => x) (fun b x => hw.fixed b (h.zy b x)) hw.fixed hw.keeps (fun _ => False) (fun _ _ => .inr ⟨rfl, rfl⟩) (fun _ x => x) rfl (hw.own t (by simp [hb])) (fun _ x => x.elim)
  · obtain ⟨h1, h2, h3⟩ := h.live t ht b base hm
    exact ⟨h1, Nat.lt_of_lt_of_le h2 hw.size, h3⟩
  · exact Nat.lt_of_lt_of_le (h.yl b hb) hw.size
/-- More is fixed. -/
theorem Sim.fix {C : Base} {σ : St} {a : Act} {w : World} {μ : Mu} {Fz Fy Fz' Fy' : Nat → Prop} (h : Sim C σ a w μ Fz Fy) (hz : ∀ b, Fz b → Fz' b) (hy : ∀ b, Fy b → Fy' b) (hzy : ∀ b, Fz' b → Fy' b)
    (hyl : ∀ b, Fy' b → b < w.heap.size) (hz0 : ∀ b, Fz' b → C.Fz0 b ∨ C.mine b) (hy0 : ∀ b, Fy' b → C.Fy0 b ∨ C.mine b) (hl : ∀ s, lk s σ.blk ≠ none → ∀ b base, μ s = some (b, base) → ¬ Fy' b) (hm' : ∀ b, C.M b → ¬ Fy' b) : Sim C σ a w μ Fz' Fy' := by
  refine { defers := fun d hd => let ⟨D, e1, e2, e3⟩ := h.defers d hd; ⟨D, e1, hy D e2, e3⟩, dist := h.dist, small := h.small, y0 := hy0, lp := h.lp, mm := h.mm, yd := h.yd, fm := fun b hb => ⟨(h.fm b hb).1, hm' b hb, (h.fm b hb).2.2⟩, size := h.size, env := fun k v hk => ⟨(h.env k v hk).1, ?_⟩, blk := fun t b hb => ?_, live := fun t ht b base hm => ?_, inj := h.inj, zy := hzy, yl := hyl, z0 := hz0, below := h.below, big := h.big }
  · exact (h.env k v hk).2.mono hz hy (fun _ _ => rfl) (fun _ _ => rfl) (Keeps.refl w) (fun _ => False) (fun _ _ => .inr ⟨rfl, rfl⟩) (fun _ x => x) (fun _ x => x.elim)
  · exact (h.blk t b hb).mono hz hy (fun _ _ => rfl) (fun _ _ => rfl) (Keeps.refl w) (fun _ => False) (fun _ _ => .inr ⟨rfl, rfl⟩) (fun _ x => x) rfl (fun _ _ _ => rfl) (fun _ x => x.elim)
  · obtain ⟨h1, h2, _⟩ := h.live t ht b base hm
    exact ⟨h1, h2, hl t ht b base hm⟩

theorem ne_YN {N d : Nat} (h : N ≤ 90000) (hd : d < N) : d ≠ YN := by unfold YN; omega
def setMu (μ : Mu) (s : Nat) (m : Option (Nat × Nat)) : Mu := fun t => if t = s then m else μ t
/-- A name is given to a block. -/
theorem Sim.name {C : Base} {σ : St} {a : Act} {w : World} {μ : Mu} {Fz Fy : Nat → Prop} (h : Sim C σ a w μ Fz Fy) (s : Nat) (hsY : s ≠ YN) (hf : σ.free s) (m : Option (Nat × Nat)) (b : Blk)
    (hm : ∀ r base, m = some (r, base) → C.mine r ∧ r < w.heap.size ∧ (¬ Fy r ∧ ¬ C.M r) ∧ ∀ t, t ≠ s → lk t σ.blk ≠ none → ∀ r' base', μ t = some (r', base') → r' ≠ r)
    (hb : RepB (setMu μ s m) (shs { σ with blk := put s b σ.blk }) Fz Fy w s b) : Sim C { σ with blk := put s b σ.blk } a w (setMu μ s m) Fz Fy := by
  have hs : ∀ t, ¬ (fun t : Nat => t = s) t → shs { σ with blk := put s b σ.blk } t = none ∨ (shs { σ with blk := put s b σ.blk } t = shs σ t ∧ setMu μ s m t = μ t) := fun t ht => by
    right; simp [shs, lk_put, setMu, ht]
  have hyd : ∀ y, C.yl = some y → setMu μ s m YN = some (y.l, 0) ∧ y.J σ.tr.length C.M w ∧ y.n1 ≤ C.B ∧ (∀ b, b < y.n1 → C.X b → C.M b) ∧ ∀ b, C.M b → C.mine b := fun y hy => ⟨by simp only [setMu, if_neg (Ne.symm hsY)]; exact (h.yd y hy).1, (h.yd y hy).2⟩
  have hfm : ∀ r, C.M r → r < w.heap.size ∧ ¬ Fy r ∧ ∀ t, lk t (put s b σ.blk) ≠ none → ∀ base, setMu μ s m t ≠ some (r, base) := fun r hr => ⟨(h.fm r hr).1, (h.fm r hr).2.1, fun t ht base hb => by
    by_cases e : t = s
    · subst e; simp only [setMu, if_true] at hb; exact (hm r base hb).2.2.1.2 hr
    · simp only [setMu, e, if_false] at hb; simp only [lk_put, e, if_false] at ht; exact (h.fm r hr).2.2 t ht base hb⟩
  refine { h with env := fun k v hk => ⟨(h.env k v hk).1, ?_⟩, blk := fun t x hx => ?_, live := fun t ht r base hr => ?_, inj := fun t u ht hu htu r base r' base' hr hr' => ?_, yd := hyd, fm := hfm }
  · refine (h.env k v hk).2.mono (fun _ x => x) (fun _ x => x) (fun _ _ => rfl) (fun _ _ => rfl) (Keeps.refl w) (fun t => t = s) hs (fun l hl => by simp only [setMu, if_neg (Ne.symm hsY)]; exact hl) (fun t ht => ?_)
    subst ht; exact hf.1 k v hk
  · by_cases e : t = s
    · subst e
      simp only [lk_put_same, Option.some.injEq] at hx
      subst hx; exact hb
    · simp only [lk_put, e, if_false] at hx
      refine (h.blk t x hx).mono (fun _ x => x) (fun _ x => x) (fun _ _ => rfl) (fun _ _ => rfl) (Keeps.refl w) (fun t => t = s) hs (fun l hl => by simp only [setMu, if_neg (Ne.symm hsY)]; exact hl) (by simp [setMu, e]) (fun _ _ _ => rfl) (fun u hu cells hc y hy => ?_)
      subst hu; subst hc; exact hf.2 t cells hx y hy
  · by_cases e : t = s
    · subst e
      simp only [setMu, if_true] at hr
      obtain ⟨h1, h2, h3, _⟩ := hm r base hr
      exact ⟨h1, h2, h3.1⟩
    · simp only [setMu, e, if_false] at hr
      simp only [lk_put, e, if_false] at ht
      exact h.live t ht r base hr
  · by_cases e : t = s
    · subst e
      have e' : u ≠ t := fun x => htu x.symm
      simp only [setMu, if_true] at hr
      simp only [setMu, e', if_false] at hr'
      simp only [lk_put, e', if_false] at hu
      exact fun x => (hm r base hr).2.2.2 u e' hu r' base' hr' x.symm
    · simp only [setMu, e, if_false] at hr
      simp only [lk_put, e, if_false] at ht
      by_cases e' : u = s
      · subst e'
        simp only [setMu, if_true] at hr'
        exact (hm r' base' hr').2.2.2 t e ht r base hr
      · simp only [setMu, e', if_false] at hr'
        simp only [lk_put, e', if_false] at hu
        exact h.inj t u ht hu htu r base r' base' hr hr'

/-- A slot is written. -/
theorem Sim.set {C : Base} {σ : St} {a : Act} {w : World} {μ : Mu} {Fz Fy : Nat → Prop} (h : Sim C σ a w μ Fz Fy) (d : Nat) (hd : d < C.N) (x : V) (v : Value) (hv : RepV μ (shs σ) Fz Fy w x v) :
    Sim C { σ with env := put d x σ.env } (a.put (some d) v) w μ Fz Fy := by
  have hsz := h.size
  refine { h with defers := by simpa [Act.put] using h.defers, size := by simpa [Act.put] using h.size, env := fun k u hk => ?_ }
  by_cases e : k = d
  · subst e
    simp only [lk_put_same, Option.some.injEq] at hk
    subst hk
    refine ⟨trivial, ?_⟩
    have : C.get (a.put (some k) v) k = v := by
      have := h.small
      simp [Base.get, Act.put, Array.getD, hsz, hd, show k < GH from by unfold GH; omega]
    rw [this]; exact hv
  · simp only [lk_put, e, if_false] at hk
    refine ⟨(h.env k u hk).1, ?_⟩
    have : C.get (a.put (some d) v) k = C.get a k := by
      have hne : d ≠ k := fun x => e x.symm
      simp [Base.get, Act.put, Array.getElem?_setIfInBounds_ne hne]
    rw [this]; exact (h.env k u hk).2
/-- A slot is written of which the state says nothing any more. -/
theorem Sim.unset {C : Base} {σ : St} {a : Act} {w : World} {μ : Mu} {Fz Fy : Nat → Prop} (h : Sim C σ a w μ Fz Fy) (d : Option Nat) (v : Value) :
    Sim C { σ with env := match d with | some d => rm d σ.env | none => σ.env } (a.put d v) w μ Fz Fy := by
  cases d with
  | none => exact h
  | some d =>
    refine { h with defers := by simpa [Act.put] using h.defers, size := by simpa [Act.put] using h.size, env := fun k u hk => ?_ }
    simp only [lk_rm] at hk
    by_cases e : k = d
    · simp [e] at hk
    · simp only [e, if_false] at hk
      refine ⟨(h.env k u hk).1, ?_⟩
      have : C.get (a.put (some d) v) k = C.get a k := by
        have hne : d ≠ k := fun x => e x.symm
        simp [Base.get, Act.put, Array.getElem?_setIfInBounds_ne hne]
      rw [this]; exact (h.env k u hk).2
theorem Sim.keep {C : Base} {σ : St} {a : Act} {w : World} {μ : Mu} {Fz Fy : Nat → Prop} (h : Sim C σ a w μ Fz Fy) (p : Nat → Bool) : Sim C { σ with env := σ.env.filter fun e => p e.1 } a w μ Fz Fy :=
  by
  refine { h with env := fun k v hk => ?_ }
  simp only [lk_filter p] at hk
  split at hk
  · exact h.env k v hk
  · simp at hk
end Go.Proofs.Ytoafhoihigfllaa.E
