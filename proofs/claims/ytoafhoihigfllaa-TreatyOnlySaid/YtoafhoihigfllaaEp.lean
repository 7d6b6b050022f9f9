/-
  The engine, part p: a region in the text's order, the control of a body, and a whole function. Conditions: none; it is stated of any program and table of its types.
-/
import Derived.Test.YtoafhoihigfllaaEu
import Derived.Scope
import Derived.TacticsIn
import Derived.LoopNIn
import Derived.OrdersIn
namespace Go.Proofs.Ytoafhoihigfllaa.E
open Go Go.RowKit
set_option linter.unusedVariables false

def guardA (ops : List Oper) (σ : St) (o : Oper) : Option Bool :=
  match o.guard with
  | none => some true
  | some (j, want) => match ops[j]? with
    | some p => match p.dst with
      | some t => match opd σ (.tmp t) with
        | some (.fv _ (.bool b)) => some (b == want)
        | some (.tup []) => some false
        | _ => none
      | none => none
    | none => none
def unsetS (σ : St) (d : Option Nat) : St :=
  match d with
  | some d => { σ with env := rm d σ.env }
  | none => σ
/-- An operation that is passed over leaves its slot with nothing. -/
def skipS (N : Nat) (σ : St) (d : Option Nat) : St :=
  match d with
  | some d => if d < N then { σ with env := put d (.tup []) σ.env } else { σ with env := rm d σ.env }
  | none => σ
def runOps (G : Pg) (keep : List Nat) (N : Nat) (ops : List Oper) : List Oper → St → Option St
  | [], σ => some σ
  | o :: r, σ => match guardA ops σ o with
    | some true => match stepX G keep N σ o with
      | some σ' => runOps G keep N ops r σ'
      | none => none
    | some false => runOps G keep N ops r (skipS N σ o.dst)
    | none => none
section
variable {C : Base} {σ : St} {a : Act} {w w' : World} {μ : Mu} {Fz Fy : Nat → Prop} {G : Pg}
theorem guardA_sound (h : Sim C σ a w μ Fz Fy) {ops : Array Oper} {o : Oper} {b : Bool} (hg : guardA ops.toList σ o = some b) : Region.wanted o (yielded ops a.tmps) = b := by
  unfold guardA at hg
  unfold Region.wanted
  split at hg
  · rename_i e; rw [e]; simpa using hg
  · rename_i j want e
    rw [e]
    split at hg
    · rename_i p hp
      split at hg
      · rename_i t ht
        split at hg
        · rename_i q bb hb
          simp only [Option.some.injEq] at hg; subst hg
          have hv := opd_sound h hb
          have hp' : ops[j]? = some p := by simpa using hp
          have htm : a.tmps[t]? = some (.bool bb) := by
            have h2 : RepV μ (shs σ) Fz Fy w (.fv q (.bool bb)) (a.tmps.getD t undef) := hv
            rw [Array.getD_eq_getD_getElem?] at h2
            cases hx : a.tmps[t]? with
            | none =>
              rw [hx] at h2
              simp only [Option.getD_none] at h2
              generalize hu : undef = u at h2
              cases h2 with
              | fv _ _ _ h2 => cases h2; simp [undef] at hu
            | some u =>
              rw [hx] at h2
              simp only [Option.getD_some] at h2
              cases h2 with
              | fv _ _ _ h2 => cases h2; rfl
          simp only [yielded, hp', Option.bind_some, ht, htm]
          cases bb <;> cases want <;> rfl
        · rename_i hb
          simp only [Option.some.injEq] at hg; subst hg
          have hv := opd_sound h hb
          have hp' : ops[j]? = some p := by simpa using hp
          have h2 : RepV μ (shs σ) Fz Fy w (.tup []) (a.tmps.getD t undef) := hv
          have hno : ∀ b, a.tmps[t]? ≠ some (.bool b) := fun b hx => by
            rw [Array.getD_eq_getD_getElem?, hx] at h2
            simp only [Option.getD_some] at h2
            exact nomatch h2
          have hy : yielded ops a.tmps j = none := by
            simp only [yielded, hp', Option.bind_some, ht]
          simp only [hy]; cases want <;> rfl
        · simp at hg
      · simp at hg
    · simp at hg
theorem Sim.unset' (h : Sim C σ a w μ Fz Fy) (d : Option Nat) (v : Value) : Sim C (unsetS σ d) (a.put d v) w μ Fz Fy := by
  have := h.unset d v
  cases d <;> exact this
theorem Sim.skip' (h : Sim C σ a w μ Fz Fy) (d : Option Nat) : Sim C (skipS C.N σ d) (a.put d undef) w μ Fz Fy := by
  cases d with
  | none => exact h.unset none undef
  | some d =>
    unfold skipS
    simp only
    split
    · rename_i hd
      exact h.set d hd (.tup []) undef (.tup [] #[] rfl (fun j y hj => by simp at hj))
    · exact h.unset (some d) undef
theorem runOps_sound (hT : TOk G) (hC : CtxOk G) {keep : List Nat} {ops : Array Oper} {Q : Exit → Act → World → Prop} {ro : Option Nat} {rm : Nat} : ∀ (l : List Oper) {C : Base} {σ σ' : St} {a : Act} {w : World} {μ : Mu} {Fz Fy : Nat → Prop}, YOk G C → Sim C σ a w μ Fz Fy →
    runOps G keep C.N ops.toList l σ = some σ' → (∀ M' a' w' μ' Fz' Fy', More C M' → Sim (C.withM M') σ' a' w' μ' Fz' Fy' → Q .normal a' w') → wpListIn (FR ro) rm G.P ops Q l a w
  | [], C, σ, σ', a, w, μ, Fz, Fy, hY, h, hr, hQ => by
    simp only [runOps, Option.some.injEq] at hr; subst hr
    exact hQ C.M _ _ _ _ _ (More.refl C) h
  | o :: l, C, σ, σ', a, w, μ, Fz, Fy, hY, h, hr, hQ => by
    simp only [runOps] at hr
    split at hr
    · rename_i hg
      split at hr
      · rename_i σ1 hs
        have hw := guardA_sound h hg
        unfold wpListIn
        rw [if_pos hw]
        exact stepX_sound hT hC hY h hs fun M' a' w' μ' Fz' Fy' hM h' => runOps_sound hT hC l (hY.withM M') h' hr fun M'' a' w' μ' Fz' Fy' hM' h' => hQ M'' a' w' μ' Fz' Fy' (hM.trans hM') h'
      · simp at hr
    · rename_i hg
      have hw := guardA_sound h hg
      unfold wpListIn
      rw [if_neg (by simp [hw])]
      exact ⟨fun _ _ => trivial, runOps_sound hT hC l hY (h.skip' o.dst) hr hQ⟩
    · simp at hr
end

/-! ### Control -/
inductive Ex where
  | normal
  | exit (id : Nat)
  | ret
def Ex.toExit : Ex → Exit
  | .normal => .normal
  | .exit id => .exit id
  | .ret => .ret
/-- How a region of which the order is drawn is run. -/
abbrev Drawer := Nat → List Oper → St → Option St
def memN (j : Nat) : List Nat → Bool
  | [] => false
  | k :: r => if j = k then true else memN j r
def keepN (j : Nat) (l : List Nat) : Bool := if hi j = true then true else memN j l
def kpIf {α : Type} (p : Nat → Bool) : List (Nat × α) → List (Nat × α)
  | [] => []
  | (j, u) :: r => if p j = true then (j, u) :: kpIf p r else kpIf p r
theorem lk_kpIf {α : Type} {p : Nat → Bool} {k : Nat} {v : α} : ∀ {l : List (Nat × α)}, lk k (kpIf p l) = some v → lk k l = some v
  | [], h => by simp [kpIf, lk] at h
  | (j, u) :: r, h => by
    simp only [kpIf] at h
    split at h
    · simp only [lk] at h ⊢
      split at h
      · rename_i e; rw [if_pos e]; exact h
      · rename_i e; rw [if_neg e]; exact lk_kpIf h
    · rename_i hn
      simp only [lk]
      split
      · rename_i e; subst e
        have : ∀ l : List (Nat × α), lk k (kpIf p l) = none := fun l => by
          induction l with
          | nil => rfl
          | cons x l ih =>
            obtain ⟨i, w⟩ := x
            simp only [kpIf]
            split
            · rename_i hm; simp only [lk]; rw [if_neg (fun e' : k = i => hn (by rw [e']; exact hm))]; exact ih
            · exact ih
        rw [this r] at h; simp at h
      · exact lk_kpIf h
def mentE (j : Nat) : List (Nat × V) → Bool
  | [] => false
  | (_, v) :: r => if ment 5 j v = true then true else mentE j r
def inB (j : Nat) : List (Nat × Blk) → Bool
  | [] => false
  | (i, b) :: r => if i = j then true else match b with
    | .box cells => if cells.any (ment 4 j) = true then true else inB j r
    | _ => inB j r
/-- What is kept: slots, and the blocks that these reach. -/
def fin (keep : List Nat × List Nat) (σ : St) : St :=
  { env := kpIf (keepN · keep.1) σ.env,
    blk := kpIf (inB · (kpIf (inB · (kpIf (mentE · (kpIf (keepN · keep.1) σ.env)) σ.blk)) σ.blk)) σ.blk, tr := σ.tr }
/-- What is kept behind each region: slots, and blocks. -/
abbrev Live := List (Nat × (List Nat × List Nat))
def kof (L : Live) (id : Nat) : List Nat × List Nat :=
  match lk id L with
  | some k => k
  | none => ([], [])
theorem Sim.sub {C : Base} {σ τ : St} {a : Act} {w : World} {μ : Mu} {Fz Fy : Nat → Prop} (h : Sim C τ a w μ Fz Fy) (he : ∀ k v, lk k σ.env = some v → lk k τ.env = some v) (h1 : ∀ s b, lk s σ.blk = some b → lk s τ.blk = some b) (htr : σ.tr.length = τ.tr.length := by rfl) : Sim C σ a w μ Fz Fy := by
  have hs : ∀ t, ¬ (fun _ : Nat => False) t → shs σ t = none ∨ (shs σ t = shs τ t ∧ μ t = μ t) := fun t _ => by
    cases hb : lk t σ.blk with
    | none => left; simp [shs, hb]
    | some b => right; simp [shs, hb, h1 t b hb]
  have hp : ∀ t, lk t σ.blk ≠ none → lk t τ.blk ≠ none := fun t ht => by
    cases hb : lk t σ.blk with
    | none => exact absurd hb ht
    | some b => simp [h1 t b hb]
  refine { h with env := fun k v hk => ?_, blk := fun t b hb => ?_, live := fun t ht => h.live t (hp t ht), inj := fun t u ht hu => h.inj t u (hp t ht) (hp u hu), fm := fun b hb => ⟨(h.fm b hb).1, (h.fm b hb).2.1, fun t ht => (h.fm b hb).2.2 t (hp t ht)⟩, yd := fun y hy => by rw [htr]; exact h.yd y hy }
  · have hk' := he k v hk
    exact ⟨(h.env k v hk').1, (h.env k v hk').2.mono (fun _ x => x) (fun _ x => x) (fun _ _ => rfl) (fun _ _ => rfl) (Keeps.refl w) (fun _ => False) hs (fun _ x => x) (fun _ x => x.elim)⟩
  · exact (h.blk t b (h1 t b hb)).mono (fun _ x => x) (fun _ x => x) (fun _ _ => rfl) (fun _ _ => rfl) (Keeps.refl w) (fun _ => False) hs (fun _ x => x) rfl (fun _ _ _ => rfl) (fun _ x => x.elim)
theorem Sim.fin {C : Base} {σ : St} {a : Act} {w : World} {μ : Mu} {Fz Fy : Nat → Prop} (h : Sim C σ a w μ Fz Fy) (keep : List Nat × List Nat) : Sim C (fin keep σ) a w μ Fz Fy :=
  h.sub (fun k v hk => lk_kpIf hk) fun t b hb => lk_kpIf hb
def iter (f : St → Option (Ex × St)) : Nat → St → Option (Ex × St)
  | 0, _ => none
  | n + 1, σ => match f σ with
    | some (.normal, σ') => iter f n σ'
    | r => r
/-! ### A range over a function -/
def upEnv : List (Nat × V) → List (Nat × V)
  | [] => []
  | (k, v) :: r => (k + 100000000, v) :: upEnv r
def dnEnv : List (Nat × V) → List (Nat × V)
  | [] => []
  | (k, v) :: r => if hi k = true then (k - 100000000, v) :: dnEnv r else dnEnv r
def loEnv : List (Nat × V) → List (Nat × V)
  | [] => []
  | (k, v) :: r => if hi k = true then loEnv r else (k, v) :: loEnv r
def St.enter (σ : St) : St := { σ with env := loEnv σ.env ++ upEnv σ.env }
def St.leave (σ : St) : St := { σ with env := dnEnv σ.env }
def bindP (N : Nat) : List Nat → List FV → List (Nat × V) → Option (List (Nat × V))
  | [], [], env => some env
  | p :: ps, x :: xs, env => if p < N then bindP N ps xs (put p (.fv false x) env) else none
  | _, _, _ => none
def rounds (f : St → Option (Ex × St)) (N : Nat) (ps : List Nat) : Nat → List (List FV) → St → Option (Option Nat × Ex × St)
  | _, [], σ => some (none, .normal, σ)
  | i, x :: r, σ => match bindP N ps x σ.enter.env with
    | some env => match f { σ.enter with env := env } with
      | some (.normal, σ') => rounds f N ps (i + 1) r σ'.leave
      | some (e, σ') => some (some i, e, σ'.leave)
      | none => none
    | none => none
def exec (G : Pg) (L : Live) (N : Nat) (D : Drawer) (n : Nat) : Code → St → Option (Ex × St)
  | .skip, σ => some (.normal, σ)
  | .region id ops draw, σ => match (if draw then D id ops.toList σ else runOps G (kof L id).1 N ops.toList ops.toList σ) with
    | some σ' => some (.normal, fin (kof L id) σ')
    | none => none
  | .seq x y, σ => match exec G L N D n x σ with
    | some (.normal, σ') => exec G L N D n y σ'
    | r => r
  | .cond c x y, σ => match opd σ c with
    | some (.fv _ (.bool b)) => if b then exec G L N D n x σ else exec G L N D n y σ
    | _ => none
  | .block id c, σ => match exec G L N D n c σ with
    | some (.exit j, σ') => if j = id then some (.normal, σ') else some (.exit j, σ')
    | r => r
  | .loop c, σ => iter (exec G L N D n c) n σ
  | .exit id, σ => some (.exit id, σ)
  | .ret, σ => some (.ret, σ)
  | .scope c, σ => exec G L N D n c σ
  | .label _, σ => some (.normal, σ)
  | .rangeFunc g ps assign body, σ => match opd σ g with
    | some f => match frz σ 6 f with
      | some (ns, ro, .fn (.func k) [] caps) => match G.itr k (caps.map fun c => (ro, c)) with
        | some xs => match rounds (fun τ => match exec G L N D n assign τ with
            | some (.normal, τ') => exec G L N D n body τ'
            | _ => none) N ps.toList 0 xs (frees σ ns) with
          | some (none, _, σ') => some (.normal, σ')
          | some (some i, e, σ') => if G.its k (caps.map fun c => (ro, c)) i = true then some (e, σ') else none
          | none => none
        | none => none
      | _ => none
    | none => none
  | _, _ => none
end Go.Proofs.Ytoafhoihigfllaa.E
