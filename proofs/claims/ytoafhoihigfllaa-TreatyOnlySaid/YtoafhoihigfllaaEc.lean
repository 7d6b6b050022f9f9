/-
  The engine, part c: what the operations that make no memory give, by the state of a frame alone; and that the model's operations give just that. Conditions: none; it is stated of any program and table of its types.
-/
import Derived.Test.YtoafhoihigfllaaEb
namespace Go.Proofs.Ytoafhoihigfllaa.E
open Go Go.RowKit
set_option linter.unusedVariables false

inductive TK where
  | other
  | int
  | bool
  | string
  | slice (e : Nat)
  | array (n e : Nat)
  | struct (fs : List (Nat × Nat))
  | map (k e : Nat)
structure TI where
  size : Nat
  bytes : Nat
  zero : List FV
  kind : TK
inductive TV where
  | fv (x : FV)
  | us (sz : Nat) (xs : List FV)
structure Pg where
  P : Program
  tbl : List (Nat × TI)
  ctx : FuncId → List (Bool × FV) → Option (List TV)
  ctxB : FuncId → List (Bool × FV) → List (Bool × FV) → Option (List TV) := fun _ _ _ => none
  eqs : List (Nat × (Nat × Bool)) := []
  keys : List Nat := []
  srt : FuncId → Nat → List FV → Option (List FV) := fun _ _ _ => none
  itr : FuncId → List (Bool × FV) → Option (List (List FV)) := fun _ _ => none
  its : FuncId → List (Bool × FV) → Nat → Bool := fun _ _ _ => false
  yl : Option (Option (List (List FV)) × Option Nat) := none
  inl : FuncId → Nat → St → List V → Option (St × List V) := fun _ _ _ _ => none
  fz : FuncId → Bool := fun _ => false

def TK.agg : TK → Bool
  | .struct _ => true
  | .array _ _ => true
  | _ => false
def cval : FV → Value
  | .int k n => .int k n
  | .bool b => .bool b
  | .str s => .string s
  | .sl _ _ _ => .slice none 0 0
  | .nilpt => .pointer none
  | .nilfn => .nilFunc
  | .nilif => .nilIface
  | .nilmp => .map none
  | _ => undef
def zgood : FV → Bool
  | .int _ _ => true
  | .bool _ => true
  | .str _ => true
  | .sl true 0 [] => true
  | .nilpt => true
  | .nilfn => true
  | .nilif => true
  | .nilmp => true
  | _ => false
theorem rep_cval {Fz : Nat → Prop} {w : World} {x : FV} (h : zgood x = true) : RepF Fz w x (cval x) := by
  unfold zgood at h
  split at h
  · exact .int _ _
  · exact .bool _
  · exact .str _
  · exact .sl0 _ _ _ _ (fun _ => rfl)
  · exact .nilpt
  · exact .nilfn
  · exact .nilif
  · exact .nilmp
  · simp at h

def KindIs (d : TypeDesc) (k : TK) : Prop :=
  match k with
    | .other => (∀ fs, d ≠ .struct fs) ∧ (∀ n e, d ≠ .array n e)
    | .int => ∃ k, d = .int k
    | .bool => d = .bool
    | .string => d = .string
    | .slice e => d = .slice e
    | .array n e => d = .array n e
    | .struct fs => ∃ fields : Array Field, d = .struct fields ∧ fields.toList.map (fun f => (f.offset, f.type)) = fs
    | .map k e => d = .map k e
structure TIok (P : Program) (t : Nat) (ti : TI) : Prop where
  info : ∃ i, P.info? t = some i ∧ i.size = ti.size ∧ i.bytes = ti.bytes ∧ ∃ z, i.zero = some z ∧ z.cells.toList = ti.zero.map cval
  good : ti.zero.all zgood = true
  zsize : ti.zero.length = ti.size
  under : ∃ d, P.underlying t = some d ∧ KindIs d ti.kind
/-- Two scalars of one kind: are they the same? -/
def eqv (q : Bool) : Value → Value → Option Bool
  | .int k a, .int j b => if q = false ∧ k = j then some (a == b) else none
  | .bool a, .bool b => if q = true then some (a == b) else none
  | _, _ => none
def eqvs (q : Bool) : List Value → List Value → Option Bool
  | [], [] => some true
  | a :: r, b :: s => match eqv q a b, eqvs q r s with
    | some x, some y => some (x && y)
    | _, _ => none
  | _, _ => none
/-- A type of n scalars, arrays or structs, of which two are compared cell by cell. -/
structure EqIs (P : Program) (t n : Nat) (q : Bool) : Prop where
  guard : P.eqGuardType P.depth t = false
  eq : ∀ (xs ys : Array Value) (r : Bool) (w : World), xs.size = n → eqvs q xs.toList ys.toList = some r → (Op.equal t (.agg xs) (.agg ys)).run P w = .ok r w
structure TOk (G : Pg) : Prop where
  tt : ∀ t ti, lk t G.tbl = some ti → TIok G.P t ti
  ee : ∀ t n, lk t G.eqs = some n → EqIs G.P t n.1 n.2
  kk : ∀ t n, t ∈ G.keys → lk t G.eqs = some n → ∀ (xs : Array Value) (em : Bool) (w : World), xs.size = n.1 → eqvs n.2 xs.toList xs.toList = some true → (Instr.checkKey em 10000 t (.agg xs)).run G.P w = .ok () w
  zv : ∀ t ti z, lk t G.tbl = some ti → ti.kind.agg = false → ti.zero = [z] → ∀ w, (zeroValue t).run G.P w = .ok (cval z) w
instance (G : Pg) : CoeFun (TOk G) fun _ => ∀ t ti, lk t G.tbl = some ti → TIok G.P t ti := ⟨TOk.tt⟩

/-! ### Operands -/
def constV : Value → Option V
  | .int k n => some (.fv false (.int k n))
  | .bool b => some (.fv false (.bool b))
  | .string s => some (.fv false (.str s))
  | .slice none 0 0 => some (.fv false (.sl true 0 []))
  | .nilFunc => some (.fv false .nilfn)
  | .pointer none => some (.fv false .nilpt)
  | .nilIface => some (.fv false .nilif)
  | .map none => some (.fv false .nilmp)
  | _ => none
def opd (σ : St) : Operand → Option V
  | .tmp t => if hi t = true then none else lk t σ.env
  | .const v => constV v
  | .func f => some (.fv false (.fn (.func f) [] []))
  | .global _ => none
section
variable {C : Base} {σ : St} {a : Act} {w : World} {μ : Mu} {Fz Fy : Nat → Prop}
theorem opd_sound (h : Sim C σ a w μ Fz Fy) {x : Operand} {v : V} (hx : opd σ x = some v) : RepV μ (shs σ) Fz Fy w v (a.eval x) := by
  cases x with
  | tmp t =>
    simp only [opd] at hx
    split at hx
    · simp at hx
    · rename_i hg
      have := (h.env t v hx).2
      rw [Base.get, if_pos (hi_lt hg)] at this
      exact this
  | global g => simp [opd] at hx
  | func f =>
    simp only [opd, Option.some.injEq] at hx
    subst hx
    exact .fv _ _ _ (.fn _ [] [] #[] #[] rfl rfl (by simp) (by simp))
  | const c =>
    simp only [opd] at hx
    unfold constV at hx
    split at hx <;> first
      | (simp only [Option.some.injEq] at hx; subst hx; exact .fv _ _ _ (by first | exact .int _ _ | exact .bool _ | exact .str _ | exact .nilfn | exact .nilpt | exact .nilif | exact .nilmp | exact .sl0 _ _ _ _ (fun _ => rfl)))
      | simp at hx
end

/-! ### The pure ones -/
def nrm (ro : Bool) (x : FV) : V := .fv (ro && !flat x) x
theorem rep_nrm {μ sh : Mu} {Fz Fy : Nat → Prop} {w : World} {ro : Bool} {x : FV} {v : Value} (h : RepF (roF Fz Fy ro) w x v) : RepV μ sh Fz Fy w (nrm ro x) v := by
  refine .fv _ _ _ ?_
  cases hf : flat x with
  | true => exact h.of_flat hf
  | false => simpa [hf] using h

def fcmp (op : BinOp) (x y : Int) : Option Bool :=
  match op with
  | .eql => some (x == y)
  | .neq => some (x != y)
  | .lss => some (decide (x < y))
  | .leq => some (decide (x ≤ y))
  | .gtr => some (decide (y < x))
  | .geq => some (decide (y ≤ x))
  | _ => none
def fint (op : BinOp) (k : IntKind) (x y : Int) : Option FV :=
  match op with
  | .add => some (.int k (k.wrap (x + y)))
  | .sub => some (.int k (k.wrap (x - y)))
  | .mul => some (.int k (k.wrap (x * y)))
  | .quo => if y = 0 then none else some (.int k (k.wrap (x.tdiv y)))
  | .rem => if y = 0 then none else some (.int k (x.tmod y))
  | .and => some (.int k (k.wrap ((BitVec.ofInt k.bits x &&& BitVec.ofInt k.bits y).toNat)))
  | .or => some (.int k (k.wrap ((BitVec.ofInt k.bits x ||| BitVec.ofInt k.bits y).toNat)))
  | .xor => some (.int k (k.wrap ((BitVec.ofInt k.bits x ^^^ BitVec.ofInt k.bits y).toNat)))
  | .shl | .shr | .andNot => none
  | _ => (fcmp op x y).map .bool
def fshift (op : BinOp) (k : IntKind) (x y : Int) : Option FV :=
  if y < 0 then none else
  match op with
  | .shl => some (.int k (k.wrap (x * 2 ^ (min y.toNat k.bits))))
  | .shr => some (.int k (x.fdiv (2 ^ (min y.toNat k.bits))))
  | _ => none
def fscal (q : Bool) : FV → FV → Option Bool
  | .int k a, .int j b => if q = false ∧ k = j then some (a == b) else none
  | .bool a, .bool b => if q = true then some (a == b) else none
  | _, _ => none
def fscals (q : Bool) : List FV → List FV → Option Bool
  | [], [] => some true
  | a :: r, b :: s => match fscal q a b, fscals q r s with
    | some x, some y => some (x && y)
    | _, _ => none
  | _, _ => none
theorem fscals_sound {z : Bool} {Fz Fz' : Nat → Prop} {w : World} : ∀ {xs ys : List FV} {r : Bool} {us vs : List Value}, fscals z xs ys = some r → us.length = xs.length → vs.length = ys.length →
    (∀ j y, xs[j]? = some y → RepF Fz w y (us.getD j undef)) → (∀ j y, ys[j]? = some y → RepF Fz' w y (vs.getD j undef)) → eqvs z us vs = some r
  | [], [], r, [], [], h, _, _, _, _ => by simpa [fscals, eqvs] using h
  | x :: xs, y :: ys, r, u :: us, v :: vs, h, hu, hv, h1, h2 => by
    simp only [fscals] at h
    split at h
    · rename_i p q hp hq
      have e1 : eqv z u v = some p := by
        have a1 := h1 0 x rfl
        have a2 := h2 0 y rfl
        simp only [List.getD_cons_zero] at a1 a2
        unfold fscal at hp
        split at hp
        · cases a1; cases a2; exact hp
        · cases a1; cases a2; exact hp
        · simp at hp
      have e2 := fscals_sound (us := us) (vs := vs) hq (by simpa using hu) (by simpa using hv) (fun j y hj => by simpa using h1 (j + 1) y (by simpa using hj)) (fun j y hj => by simpa using h2 (j + 1) y (by simpa using hj))
      simp only [eqvs, e1, e2]; exact h
    · simp at h
  | [], _ :: _, r, _, _, h, _, _, _, _ => by simp [fscals] at h
  | _ :: _, [], r, _, _, h, _, _, _, _ => by simp [fscals] at h
  | _ :: _, _, _, [], _, _, hu, _, _, _ => by simp at hu
  | [], _, _, _ :: _, _, _, hu, _, _, _ => by simp at hu
  | _, _ :: _, _, _, [], _, _, hv, _, _ => by simp at hv
  | _, [], _, _, _ :: _, _, _, hv, _, _ => by simp at hv
def fbin (G : Pg) (op : BinOp) (t : Nat) : FV → FV → Option FV
  | .int k x, .int j y => match op with
    | .shl => fshift .shl k x y
    | .shr => fshift .shr k x y
    | _ => if k = j then fint op k x y else none
  | .bool x, .bool y => match lk t G.tbl, op with
    | some ⟨_, _, _, .bool⟩, .eql => some (.bool (x == y))
    | some ⟨_, _, _, .bool⟩, .neq => some (.bool (!(x == y)))
    | _, _ => none
  | .agg xs, .agg ys => match lk t G.eqs with
    | some n => if xs.length = n.1 then match fscals n.2 xs ys, op with
        | some r, .eql => some (.bool r)
        | some r, .neq => some (.bool (!r))
        | _, _ => none
      else none
    | none => none
  | _, _ => none
theorem fint_sound {P : Program} {op : BinOp} {k : IntKind} {x y : Int} {z : FV} (h : fint op k x y = some z) (hs : op ≠ .shl) (hs' : op ≠ .shr) (t : Nat) (w : World) :
    ∃ v, (binOp op t (.int k x) (.int k y)).run P w = .ok v w ∧ ∀ (Fz : Nat → Prop) w', RepF Fz w' z v := by
  cases op
  case quo => simp only [fint] at h
              split at h
              · simp at h
              · simp only [Option.some.injEq] at h; subst h; exact ⟨_, by simp [binOp, Op.intDiv, *], fun _ _ => .int _ _⟩
  case rem => simp only [fint] at h
              split at h
              · simp at h
              · simp only [Option.some.injEq] at h; subst h; exact ⟨_, by simp [binOp, Op.intDiv, *], fun _ _ => .int _ _⟩
  case shl => exact (hs rfl).elim
  case shr => exact (hs' rfl).elim
  case andNot => simp [fint] at h
  case and => simp only [fint, Option.some.injEq] at h; subst h; exact ⟨_, by simp only [binOp, ne_eq, not_true_eq_false, if_false]; rfl, fun _ _ => .int _ _⟩
  case or => simp only [fint, Option.some.injEq] at h; subst h; exact ⟨_, by simp only [binOp, ne_eq, not_true_eq_false, if_false]; rfl, fun _ _ => .int _ _⟩
  case xor => simp only [fint, Option.some.injEq] at h; subst h; exact ⟨_, by simp only [binOp, ne_eq, not_true_eq_false, if_false]; rfl, fun _ _ => .int _ _⟩
  case add => simp only [fint, Option.some.injEq] at h; subst h; exact ⟨_, by simp [binOp, Op.intArith], fun _ _ => .int _ _⟩
  case sub => simp only [fint, Option.some.injEq] at h; subst h; exact ⟨_, by simp [binOp, Op.intArith], fun _ _ => .int _ _⟩
  case mul => simp only [fint, Option.some.injEq] at h; subst h; exact ⟨_, by simp [binOp, Op.intArith], fun _ _ => .int _ _⟩
  all_goals
    simp only [fint, fcmp, Option.map_some, Option.some.injEq] at h
    subst h
    exact ⟨_, by simp only [binOp, ne_eq, not_true_eq_false, if_false]; rfl, fun _ _ => .bool _⟩
theorem run_eq_bool {P : Program} {t : Nat} (ht : P.underlying t = some .bool) (b c : Bool) (w : World) : (Op.equal t (.bool b) (.bool c)).run P w = .ok (b == c) w := by
  unfold Op.equal
  rw [show Op.maxDepth = 9999 + 1 from rfl, Op.equalIn]
  simp [underlying, ht]
theorem fbin_sound {G : Pg} (hT : TOk G) {op : BinOp} {t : Nat} {x y z : FV} (h : fbin G op t x y = some z) {Fz Fz' : Nat → Prop} {w : World} {u v : Value} (hx : RepF Fz w x u) (hy : RepF Fz' w y v) (xo yo : Operand) :
    ∃ r, (do eqGuard op t xo yo u v; binOp op t u v : Sem Value).run G.P w = .ok r w ∧ ∀ (Fz : Nat → Prop) w', RepF Fz w' z r := by
  unfold fbin at h
  split at h
  · rename_i k i j l
    cases hx; cases hy
    have hg : ∀ op, (eqGuard op t xo yo (.int k i) (.int j l)).run G.P w = .ok () w := fun op => by cases op <;> simp [eqGuard]
    simp only [Sem.run_bind, hg, Result.andThen_ok]
    split at h
    · simp only [fshift] at h
      split at h
      · simp at h
      · simp only [Option.some.injEq] at h; subst h; exact ⟨_, by simp [binOp, Op.shift, *], fun _ _ => .int _ _⟩
    · simp only [fshift] at h
      split at h
      · simp at h
      · simp only [Option.some.injEq] at h; subst h; exact ⟨_, by simp [binOp, Op.shift, *], fun _ _ => .int _ _⟩
    · rename_i h1 h2
      split at h
      · rename_i hkj; subst hkj
        exact fint_sound h (fun e => h1 e) (fun e => h2 e) t w
      · simp at h
  · rename_i b c
    cases hx; cases hy
    have hg : ∀ op, (eqGuard op t xo yo (.bool b) (.bool c)).run G.P w = .ok () w := fun op => by cases op <;> simp [eqGuard]
    simp only [Sem.run_bind, hg, Result.andThen_ok]
    split at h
    · rename_i s1 s2 s3 heq
      obtain ⟨d, hd, hk⟩ := (hT t _ heq).under
      simp only [KindIs] at hk; subst hk
      simp only [Option.some.injEq] at h; subst h
      exact ⟨_, by simp only [binOp, Sem.run_bind, run_eq_bool hd, Result.andThen_ok]; rfl, fun _ _ => .bool _⟩
    · rename_i s1 s2 s3 heq
      obtain ⟨d, hd, hk⟩ := (hT t _ heq).under
      simp only [KindIs] at hk; subst hk
      simp only [Option.some.injEq] at h; subst h
      exact ⟨_, by simp only [binOp, Sem.run_bind, run_eq_bool hd, Result.andThen_ok]; rfl, fun _ _ => .bool _⟩
    · simp at h
  · rename_i xs ys
    cases hx with
    | agg _ us hus hru =>
    cases hy with
    | agg _ vs hvs hrv =>
    split at h
    · rename_i n hn
      have hE := hT.ee t n hn
      split at h
      · rename_i hlen
        have hg : ∀ op, (eqGuard op t xo yo (.agg us) (.agg vs)).run G.P w = .ok () w := fun op => by
          cases op <;> simp [eqGuard, hE.guard]
        simp only [Sem.run_bind, hg, Result.andThen_ok]
        split at h
        · rename_i r hr
          simp only [Option.some.injEq] at h; subst h
          have := hE.eq us vs r w (by rw [hus, hlen]) (fscals_sound hr (by simpa using hus) (by simpa using hvs) (fun j y hj => by simpa [List.getD_eq_getElem?_getD, Array.getD_eq_getD_getElem?] using hru j y hj) (fun j y hj => by simpa [List.getD_eq_getElem?_getD, Array.getD_eq_getD_getElem?] using hrv j y hj))
          exact ⟨_, by simp only [binOp, Sem.run_bind, this, Result.andThen_ok]; rfl, fun _ _ => .bool _⟩
        · rename_i r hr
          simp only [Option.some.injEq] at h; subst h
          have := hE.eq us vs r w (by rw [hus, hlen]) (fscals_sound hr (by simpa using hus) (by simpa using hvs) (fun j y hj => by simpa [List.getD_eq_getElem?_getD, Array.getD_eq_getD_getElem?] using hru j y hj) (fun j y hj => by simpa [List.getD_eq_getElem?_getD, Array.getD_eq_getD_getElem?] using hrv j y hj))
          exact ⟨_, by simp only [binOp, Sem.run_bind, this, Result.andThen_ok]; rfl, fun _ _ => .bool _⟩
        · simp at h
      · simp at h
    · simp at h
  · simp at h
end Go.Proofs.Ytoafhoihigfllaa.E
