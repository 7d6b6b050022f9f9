/-
  The engine, part q: a table of types is asked by evaluation. Conditions: none; it is stated of any program.
-/
import Derived.Test.YtoafhoihigfllaaEz
namespace Go.Proofs.Ytoafhoihigfllaa.E
open Go Go.RowKit
set_option linter.unusedVariables false

def zeq : Value → FV → Bool
  | .int k n, .int j m => decide (k = j) && decide (n = m)
  | .bool a, .bool b => a == b
  | .string s, .str t => s.data.toList.isEmpty && t.data.toList.isEmpty
  | .slice none 0 0, .sl true 0 [] => true
  | .pointer none, .nilpt => true
  | .nilFunc, .nilfn => true
  | .nilIface, .nilif => true
  | .map none, .nilmp => true
  | _, _ => false
def zlist : List Value → List FV → Bool
  | [], [] => true
  | v :: vs, x :: xs => zeq v x && zlist vs xs
  | _, _ => false
theorem zeq_sound {v : Value} {x : FV} (h : zeq v x = true) : v = cval x ∧ zgood x = true := by
  unfold zeq at h
  split at h
  · simp only [Bool.and_eq_true, decide_eq_true_eq] at h; obtain ⟨rfl, rfl⟩ := h; exact ⟨rfl, rfl⟩
  · simp only [beq_iff_eq] at h; subst h; exact ⟨rfl, rfl⟩
  · rename_i s t
    simp only [Bool.and_eq_true, List.isEmpty_iff] at h
    have : s = t := by cases s; cases t; simp only [ByteArray.mk.injEq]; apply Array.toList_inj.1; rw [h.1, h.2]
    subst this; exact ⟨rfl, rfl⟩
  · exact ⟨rfl, rfl⟩
  · exact ⟨rfl, rfl⟩
  · exact ⟨rfl, rfl⟩
  · exact ⟨rfl, rfl⟩
  · exact ⟨rfl, rfl⟩
  · simp at h
theorem zlist_sound : ∀ {vs : List Value} {xs : List FV}, zlist vs xs = true → vs = xs.map cval ∧ xs.all zgood = true
  | [], [], _ => ⟨rfl, rfl⟩
  | v :: vs, x :: xs, h => by
    simp only [zlist, Bool.and_eq_true] at h
    obtain ⟨h1, h2⟩ := zeq_sound h.1
    obtain ⟨h3, h4⟩ := zlist_sound h.2
    exact ⟨by simp [h1, h3], by simp [h2, h4]⟩
  | [], _ :: _, h => by simp [zlist] at h
  | _ :: _, [], h => by simp [zlist] at h
def pairsEq : List (Nat × Nat) → List (Nat × Nat) → Bool
  | [], [] => true
  | (a, b) :: r, (c, d) :: s => decide (a = c) && decide (b = d) && pairsEq r s
  | _, _ => false
theorem pairsEq_sound : ∀ {xs ys : List (Nat × Nat)}, pairsEq xs ys = true → xs = ys
  | [], [], _ => rfl
  | (a, b) :: r, (c, d) :: s, h => by
    simp only [pairsEq, Bool.and_eq_true, decide_eq_true_eq] at h
    obtain ⟨⟨rfl, rfl⟩, h⟩ := h
    rw [pairsEq_sound h]
  | [], _ :: _, h => by simp [pairsEq] at h
  | _ :: _, [], h => by simp [pairsEq] at h
def kindOk (d : TypeDesc) (k : TK) : Bool :=
  match d, k with
  | .struct fields, .struct fs => pairsEq (fields.toList.map fun f => (f.offset, f.type)) fs
  | .array n e, .array m f => decide (n = m) && decide (e = f)
  | .slice e, .slice f => decide (e = f)
  | .map a b, .map c d => decide (a = c) && decide (b = d)
  | .int _, .int => true
  | .bool, .bool => true
  | .string, .string => true
  | .struct _, .other => false
  | .array _ _, .other => false
  | _, .other => true
  | _, _ => false
theorem kindOk_sound {d : TypeDesc} {k : TK} (h : kindOk d k = true) : KindIs d k := by
  cases k with
  | other => refine ⟨fun fs e => ?_, fun n e he => ?_⟩
             · subst e; simp [kindOk] at h
             · subst he; simp [kindOk] at h
  | struct fs => cases d <;> simp [kindOk] at h; exact ⟨_, rfl, pairsEq_sound h⟩
  | int => cases d <;> simp [kindOk] at h; exact ⟨_, rfl⟩
  | bool => cases d <;> simp [kindOk] at h; rfl
  | string => cases d <;> simp [kindOk] at h; rfl
  | slice e => cases d <;> simp [kindOk] at h; subst h; rfl
  | array n e => cases d <;> simp [kindOk] at h; obtain ⟨rfl, rfl⟩ := h; rfl
  | map a b => cases d <;> simp [kindOk] at h; obtain ⟨rfl, rfl⟩ := h; rfl
def tiChk (P : Program) (t : Nat) (ti : TI) : Bool :=
  match P.info? t, P.underlying t with
  | some i, some d => decide (i.size = ti.size) && decide (i.bytes = ti.bytes) && (match i.zero with | some z => zlist z.cells.toList ti.zero | none => false) && decide (ti.zero.length = ti.size) && kindOk d ti.kind && (ti.kind.agg || (match i.zero with | some (.agg _) => false | _ => true))
  | _, _ => false
theorem tiChk_sound {P : Program} {t : Nat} {ti : TI} (h : tiChk P t ti = true) : TIok P t ti := by
  unfold tiChk at h
  split at h
  · rename_i i d hi hd
    simp only [Bool.and_eq_true, decide_eq_true_eq] at h
    obtain ⟨⟨⟨⟨⟨h1, h2⟩, h3⟩, h4⟩, h5⟩, _⟩ := h
    cases hz : i.zero with
    | none => simp [hz] at h3
    | some z =>
      simp only [hz] at h3
      obtain ⟨z1, z2⟩ := zlist_sound h3
      exact { info := ⟨i, hi, h1, h2, z, hz, z1⟩, good := z2, zsize := h4, under := ⟨d, hd, kindOk_sound h5⟩ }
  · simp at h
theorem tiChk_zero {P : Program} {t : Nat} {ti : TI} (h : tiChk P t ti = true) (ha : ti.kind.agg = false) {z : FV} (hz : ti.zero = [z]) (w : World) : (zeroValue t).run P w = .ok (cval z) w := by
  unfold tiChk at h
  split at h
  · rename_i i d hi hd
    simp only [Bool.and_eq_true, decide_eq_true_eq] at h
    obtain ⟨⟨⟨⟨⟨h1, h2⟩, h3⟩, h4⟩, h5⟩, h6⟩ := h
    cases hzz : i.zero with
    | none => simp [hzz] at h3
    | some v =>
      simp only [hzz] at h3
      obtain ⟨z1, z2⟩ := zlist_sound h3
      rw [hz] at z1
      simp only [hzz, ha, Bool.false_or] at h6
      have hv : v.cells = #[v] := by cases v <;> first | rfl | simp at h6
      rw [hv] at z1
      have e : v = cval z := by simpa using z1
      simp [zeroValue, typeInfo, hi, hzz, e]
  · simp at h
def tblChk (P : Program) (tbl : List (Nat × TI)) : Bool := tbl.all fun e => tiChk P e.1 e.2
theorem lk_mem {α : Type} {k : Nat} {v : α} : ∀ {l : List (Nat × α)}, lk k l = some v → (k, v) ∈ l
  | [], h => by simp [lk] at h
  | (j, u) :: r, h => by
    simp only [lk] at h
    split at h
    · rename_i e; simp only [Option.some.injEq] at h; subst e; subst h; simp
    · exact List.mem_cons_of_mem _ (lk_mem h)
theorem TOk_of_chk {G : Pg} (h : tblChk G.P G.tbl = true) (hE : ∀ t n, lk t G.eqs = some n → EqIs G.P t n.1 n.2)
    (hK : ∀ t n, t ∈ G.keys → lk t G.eqs = some n → ∀ (xs : Array Value) (em : Bool) (w : World), xs.size = n.1 → eqvs n.2 xs.toList xs.toList = some true → (Instr.checkKey em 10000 t (.agg xs)).run G.P w = .ok () w) : TOk G := by
  simp only [tblChk, List.all_eq_true] at h
  exact ⟨fun t ti ht => tiChk_sound (h (t, ti) (lk_mem ht)), hE, hK, fun t ti z ht ha hz w => tiChk_zero (h (t, ti) (lk_mem ht)) ha hz w⟩

/-! ### Lists of numbers -/
def ints (l : List Int) : List FV := l.map (.int .i64)
@[simp] theorem ints_nil : ints [] = [] := rfl
@[simp] theorem ints_cons (x : Int) (l : List Int) : ints (x :: l) = .int .i64 x :: ints l := rfl
@[simp] theorem ints_length (l : List Int) : (ints l).length = l.length := by simp [ints]
@[simp] theorem ints_append (a b : List Int) : ints (a ++ b) = ints a ++ ints b := by simp [ints]
@[simp] theorem ints_get (l : List Int) (i : Nat) : (ints l)[i]? = (l[i]?).map (.int .i64) := by simp [ints]
@[simp] theorem ints_flat (l : List Int) : (ints l).all flat = true := by simp [ints, flat, flat1]
@[simp] theorem ints_take (l : List Int) (n : Nat) : (ints l).take n = ints (l.take n) := by simp [ints, List.map_take]
@[simp] theorem ints_drop (l : List Int) (n : Nat) : (ints l).drop n = ints (l.drop n) := by simp [ints, List.map_drop]
@[simp] theorem ints_set (l : List Int) (n : Nat) (x : Int) : (ints l).set n (.int .i64 x) = ints (l.set n x) := by simp [ints, List.map_set]
end Go.Proofs.Ytoafhoihigfllaa.E
