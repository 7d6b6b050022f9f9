/-
  The engine, part 2c: the law of the regions that draw their order. Conditions: 'mixedOrders'; it is stated of any program and table of its types.
-/
import Derived.Test.YtoafhoihigfllaaFb
namespace Go.Proofs.Ytoafhoihigfllaa.E
open Go Go.RowKit
set_option linter.unusedVariables false
set_option linter.unusedSimpArgs false

/-! ### What must have run ahead of an operation -/
def depMask (acc : List Nat) (o : Oper) : Nat := o.after.toList.foldr (fun e m => if Region.binds .any e then 2 ^ e.on ||| (acc.getD e.on 0 ||| m) else m) 0
def depTab : List Oper → List Nat → List Nat
  | [], acc => acc
  | o :: r, acc => depTab r (acc ++ [depMask acc o])
theorem depMask_sound {acc : List Nat} {o : Oper} {x : Nat} (h : (depMask acc o).testBit x = true) : ∃ e ∈ o.after.toList, Region.binds .any e = true ∧ (x = e.on ∨ (acc.getD e.on 0).testBit x = true) := by
  unfold depMask at h
  generalize o.after.toList = l at h ⊢
  induction l with
  | nil => simp at h
  | cons e r ih =>
    simp only [List.foldr_cons] at h
    split at h
    · rename_i hb
      simp only [Nat.testBit_or, Bool.or_eq_true, Nat.testBit_two_pow, decide_eq_true_eq] at h
      rcases h with h | h | h
      · exact ⟨e, by simp, hb, .inl h.symm⟩
      · exact ⟨e, by simp, hb, .inr h⟩
      · obtain ⟨e', h1, h2⟩ := ih h; exact ⟨e', by simp [h1], h2⟩
    · obtain ⟨e', h1, h2⟩ := ih h; exact ⟨e', by simp [h1], h2⟩
def DepOk (pre : List Oper) (acc : List Nat) : Prop := acc.length = pre.length ∧ ∀ i o, pre[i]? = some o → ∀ x, (acc.getD i 0).testBit x = true → ∃ e ∈ o.after.toList, Region.binds .any e = true ∧ (x = e.on ∨ (acc.getD e.on 0).testBit x = true)
theorem depTab_sound : ∀ (l pre : List Oper) (acc : List Nat), DepOk pre acc → DepOk (pre ++ l) (depTab l acc)
  | [], pre, acc, h => by simpa [depTab] using h
  | o :: r, pre, acc, h => by
    have hmore : ∀ j x, (acc.getD j 0).testBit x = true → ((acc ++ [depMask acc o]).getD j 0).testBit x = true := fun j x hx => by
      by_cases hj : j < acc.length
      · simpa [List.getD_eq_getElem?_getD, List.getElem?_append_left hj] using hx
      · simp [List.getD_eq_getElem?_getD, List.getElem?_eq_none (Nat.le_of_not_lt hj)] at hx
    have := depTab_sound r (pre ++ [o]) (acc ++ [depMask acc o]) ⟨by simp [h.1], fun i p hp x hx => by
      by_cases hi : i < pre.length
      · have hp' : pre[i]? = some p := by simpa [List.getElem?_append_left hi] using hp
        have hx' : (acc.getD i 0).testBit x = true := by
          have hi' : i < acc.length := by rw [h.1]; exact hi
          simpa [List.getD_eq_getElem?_getD, List.getElem?_append_left hi'] using hx
        obtain ⟨e, h1, h2, h3⟩ := h.2 i p hp' x hx'
        exact ⟨e, h1, h2, h3.imp id (hmore _ _)⟩
      · have hi2 : i = pre.length := by
          have := (List.getElem?_eq_some_iff.1 hp).1
          simp at this; omega
        subst hi2
        simp at hp
        subst hp
        have hx' : (depMask acc o).testBit x = true := by
          simpa [List.getD_eq_getElem?_getD, ← h.1] using hx
        obtain ⟨e, h1, h2, h3⟩ := depMask_sound hx'
        exact ⟨e, h1, h2, h3.imp id (hmore _ _)⟩⟩
    simpa [depTab] using this

/-! ### A plan: which slots an operation may read, and which blocks it may not know -/
abbrev Plan := List (List Nat × List Nat)
def dsts (ops : List Oper) (n : Nat) : List Nat := (ops.take n).map fun o => o.dst.getD 0
def makers (ops : List Oper) (n : Nat) : List Nat := ((ops.take n).filter fun o => maker o.op).map fun o => o.dst.getD 0
def allI {α : Type} (p : Nat → α → Bool) : Nat → List α → Bool
  | _, [] => true
  | i, x :: r => p i x && allI p (i + 1) r
theorem allI_get {α : Type} {p : Nat → α → Bool} : ∀ {l : List α} {k : Nat}, allI p k l = true → ∀ i x, l[i]? = some x → p (k + i) x = true
  | [], k, h, i, x, hx => by simp at hx
  | y :: r, k, h, i, x, hx => by
    simp only [allI, Bool.and_eq_true] at h
    cases i with
    | zero => simp only [List.getElem?_cons_zero, Option.some.injEq] at hx; subst hx; exact h.1
    | succ i => have := allI_get h.2 i x (by simpa using hx); rwa [show k + 1 + i = k + (i + 1) from by omega] at this
/-- An operation of the front that writes a slot anew, which others have read ahead of it: it names its own slot. -/
def over1 (o : Oper) (e : List Nat × List Nat) : Bool := o.guard.isNone && !maker o.op && (match o.dst with | some d => e.1.contains d | none => false)
def overAt (ops : List Oper) (pl : Plan) (j : Nat) : Bool :=
  match ops[j]?, pl[j]? with
  | some o, some e => over1 o e
  | _, _ => false
/-- The slots of the front that were not there. -/
def dstsP : List Oper → Plan → List Nat
  | o :: r, e :: pl => if over1 o e = true then dstsP r pl else o.dst.getD 0 :: dstsP r pl
  | _, _ => []
theorem mem_dstsP : ∀ {ops : List Oper} {pl : Plan} {i d : Nat} {o : Oper} {e : List Nat × List Nat}, ops[i]? = some o → pl[i]? = some e → o.dst = some d → over1 o e = false → d ∈ dstsP ops pl
  | o :: r, e :: pl, i, d, o', e', ho, he, hd, hov => by
    unfold dstsP
    cases i with
    | zero =>
      simp only [List.getElem?_cons_zero, Option.some.injEq] at ho he
      subst ho; subst he
      rw [if_neg (by simp [hov]), hd]
      exact List.mem_cons_self
    | succ i =>
      have := mem_dstsP (ops := r) (pl := pl) (i := i) (by simpa using ho) (by simpa using he) hd hov
      split
      · exact this
      · exact List.mem_cons_of_mem _ this
  | [], _, i, d, o', e', ho, _, _, _ => by simp at ho
  | _ :: _, [], i, d, o', e', _, he, _, _ => by simp at he
def planOk (ops : List Oper) (pl : Plan) : Bool :=
  let D := depTab ops []
  let n := pl.length
  decide (n ≤ ops.length)
  && allI (fun i o => o.after.toList.all fun e => !Region.binds .any e || decide (e.on < i)) 0 ops
  && allI (fun i o => o.dst.isSome && allI (fun j p => decide (i = j) || !(o.dst.getD 0 == p.dst.getD 0)) 0 (ops.take n)) 0 (ops.take n)
  && allI (fun i e => allI (fun j p => (!(e.1.contains (p.dst.getD 0)) || (D.getD i 0).testBit j || (overAt ops pl j && (decide (i = j) || (D.getD j 0).testBit i))) && (!maker p.op || (D.getD i 0).testBit j || decide (i = j) || e.2.contains (p.dst.getD 0))) 0 (ops.take n)) 0 pl
  && allI (fun i d => decide (i < n) || ((List.range i).all fun j => d.testBit j)) 0 D

structure PlanOk (ops : List Oper) (pl : Plan) (D : List Nat) : Prop where
  len : pl.length ≤ ops.length
  dep : ∀ i o, ops[i]? = some o → ∀ x, (D.getD i 0).testBit x = true → ∃ e ∈ o.after.toList, Region.binds .any e = true ∧ (x = e.on ∨ (D.getD e.on 0).testBit x = true)
  back : ∀ i o, ops[i]? = some o → ∀ e ∈ o.after.toList, Region.binds .any e = true → e.on < i
  dst : ∀ i o, i < pl.length → ops[i]? = some o → ∃ d, o.dst = some d
  inj : ∀ i j o p, i < pl.length → j < pl.length → ops[i]? = some o → ops[j]? = some p → o.dst = p.dst → i = j
  sees : ∀ i j (e : List Nat × List Nat) p d, pl[i]? = some e → j < pl.length → ops[j]? = some p → p.dst = some d → d ∈ e.1 → (D.getD i 0).testBit j = true ∨ (overAt ops pl j = true ∧ (i = j ∨ (D.getD j 0).testBit i = true))
  hides : ∀ i j (e : List Nat × List Nat) p d, pl[i]? = some e → j < pl.length → ops[j]? = some p → p.dst = some d → maker p.op = true → (D.getD i 0).testBit j = true ∨ i = j ∨ d ∈ e.2
  tail : ∀ i, pl.length ≤ i → i < ops.length → ∀ j, j < i → (D.getD i 0).testBit j = true
theorem take_get {α : Type} {l : List α} {n i : Nat} {x : α} (hi : i < n) (h : l[i]? = some x) : (l.take n)[i]? = some x := by
  rw [List.getElem?_take, if_pos hi]; exact h
theorem depTab_length : ∀ (l : List Oper) (acc : List Nat), (depTab l acc).length = acc.length + l.length
  | [], acc => by simp [depTab]
  | o :: r, acc => by simp only [depTab, depTab_length r, List.length_append, List.length_cons, List.length_nil]; omega
theorem planOk_sound {ops : List Oper} {pl : Plan} (h : planOk ops pl = true) : PlanOk ops pl (depTab ops []) := by
  simp only [planOk, Bool.and_eq_true, decide_eq_true_eq] at h
  obtain ⟨⟨⟨⟨h1, h2⟩, h3⟩, h4⟩, h5⟩ := h
  have hD := depTab_sound ops [] [] ⟨rfl, by simp⟩
  simp only [List.nil_append] at hD
  refine { len := h1, dep := hD.2, back := fun i o ho e he hb => ?_, dst := fun i o hi ho => ?_, inj := fun i j o p hi hj ho hp he => ?_, sees := fun i j e p d hi hj hp hd hm => ?_, hides := fun i j e p d hi hj hp hd hm => ?_, tail := fun i hi hi2 j hj => ?_ }
  · have := allI_get h2 i o ho
    simp only [Nat.zero_add, List.all_eq_true] at this
    have := this e he
    simpa [hb] using this
  · have := allI_get h3 i o (take_get hi ho)
    simp only [Bool.and_eq_true, Option.isSome_iff_exists] at this
    exact this.1
  · have := allI_get h3 i o (take_get hi ho)
    simp only [Bool.and_eq_true] at this
    have := allI_get this.2 j p (take_get hj hp)
    simpa [he] using this
  · have := allI_get (allI_get h4 i e hi) j p (take_get hj hp)
    simp only [Nat.zero_add, Bool.and_eq_true, hd, Option.getD_some] at this
    have := this.1
    simp only [Bool.or_eq_true, Bool.not_eq_true', Bool.and_eq_true, decide_eq_true_eq] at this
    rcases this with (h6 | h6) | h6
    · rw [List.contains_iff_mem.mpr hm] at h6; simp at h6
    · exact .inl h6
    · exact .inr h6
  · have := allI_get (allI_get h4 i e hi) j p (take_get hj hp)
    simp only [Nat.zero_add, Bool.and_eq_true, hd, Option.getD_some] at this
    have := this.2
    simpa [hm, or_assoc] using this
  · have hlt : i < (depTab ops []).length := by rw [hD.1]; exact hi2
    have := allI_get h5 i _ (List.getElem?_eq_getElem hlt)
    simp only [Nat.zero_add, Bool.or_eq_true, decide_eq_true_eq, List.all_eq_true, List.mem_range] at this
    rcases this with h | h
    · omega
    · simpa [List.getD_eq_getElem?_getD, List.getElem?_eq_getElem hlt] using h j hj

/-! ### The run, in the text's order -/
def pk (l : List (Nat × V)) : List Nat → List (Nat × V)
  | [] => []
  | t :: r => match lk t l with
    | some v => (t, v) :: pk l r
    | none => pk l r
def rmL {α : Type} : List Nat → List (Nat × α) → List (Nat × α)
  | [], l => l
  | f :: r, l => rm f (rmL r l)
theorem lk_pk {l : List (Nat × V)} {k : Nat} {v : V} : ∀ {ts : List Nat}, lk k (pk l ts) = some v → k ∈ ts ∧ lk k l = some v
  | [], h => by simp [pk, lk] at h
  | t :: r, h => by
    simp only [pk] at h
    split at h
    · rename_i u hu
      simp only [lk] at h
      split at h
      · rename_i e; subst e; simp only [Option.some.injEq] at h; subst h; exact ⟨by simp, hu⟩
      · have := lk_pk h; exact ⟨by simp [this.1], this.2⟩
    · have := lk_pk h; exact ⟨by simp [this.1], this.2⟩
theorem lk_rmL {α : Type} {l : List (Nat × α)} {k : Nat} : ∀ (fs : List Nat), lk k (rmL fs l) = if k ∈ fs then none else lk k l
  | [] => by simp [rmL]
  | f :: r => by
    simp only [rmL, lk_rm, lk_rmL r, List.mem_cons]
    by_cases e : k = f <;> simp [e]
def mentAny (fs : List Nat) (v : V) : Bool := fs.any fun f => ment 5 f v
def blkMent (fs : List Nat) : Option Blk → Bool
  | some (.box cells) => cells.any (mentAny fs)
  | _ => false
def addO (σ : St) : Option (Nat × V × Option Blk) → St
  | some (d, v, some b) => { σ with env := put d v σ.env, blk := put d b σ.blk }
  | some (d, v, none) => { σ with env := put d v σ.env }
  | none => σ
def drawA (G : Pg) (keep : List Nat) (N : Nat) (ops : List Oper) : Plan → List Oper → St → Option St
  | [], r, σ => runOps G keep N ops r σ
  | (ts, fs) :: pl, o :: r, σ => match o.dst with
    | some d => match guardA ops ⟨pk σ.env ts, [], []⟩ o with
      | some true => match addA G keep ⟨pk σ.env ts, rmL fs σ.blk, []⟩ d o.type o.op with
        | some (v, ob) => if (mentAny fs v || blkMent fs ob) = false then drawA G keep N ops pl r (addO σ (some (d, v, ob))) else none
        | none => none
      | some false => drawA G keep N ops pl r σ
      | none => none
    | none => none
  | _, [], _ => none
def prep (ds ms : List Nat) (σ : St) : St := St.kill ms { σ with env := rmL ds σ.env, blk := rmL ms σ.blk }

def afterO (σ : St) (outs : List (Option (Nat × V × Option Blk))) : St := outs.foldl addO σ
theorem addO_tr (σ : St) (o : Option (Nat × V × Option Blk)) : (addO σ o).tr = σ.tr := by
  unfold addO; split <;> rfl
theorem afterO_tr : ∀ (outs : List (Option (Nat × V × Option Blk))) (σ : St), (afterO σ outs).tr = σ.tr
  | [], σ => rfl
  | o :: r, σ => by
    have := afterO_tr r (addO σ o)
    rw [show afterO σ (o :: r) = afterO (addO σ o) r from rfl, this, addO_tr]
/-- What a step of the run says. -/
def StepFact (G : Pg) (keep : List Nat) (ops : List Oper) (σ : St) (o : Oper) (e : List Nat × List Nat) (out : Option (Nat × V × Option Blk)) : Prop :=
  ∃ d, o.dst = some d ∧ match out with
    | none => guardA ops ⟨pk σ.env e.1, [], []⟩ o = some false
    | some (d', v, ob) => d' = d ∧ guardA ops ⟨pk σ.env e.1, [], []⟩ o = some true ∧ addA G keep ⟨pk σ.env e.1, rmL e.2 σ.blk, []⟩ d o.type o.op = some (v, ob) ∧ mentAny e.2 v = false ∧ blkMent e.2 ob = false
theorem drawA_outs {G : Pg} {keep : List Nat} {N : Nat} {ops : List Oper} : ∀ (pl : Plan) (r : List Oper) (σ σ' : St), drawA G keep N ops pl r σ = some σ' →
    ∃ outs : List (Option (Nat × V × Option Blk)), outs.length = pl.length ∧ runOps G keep N ops (r.drop pl.length) (afterO σ outs) = some σ' ∧
      ∀ (i : Nat) (e : List Nat × List Nat) (o : Oper) (out : Option (Nat × V × Option Blk)), pl[i]? = some e → r[i]? = some o → outs[i]? = some out → StepFact G keep ops (afterO σ (outs.take i)) o e out
  | [], r, σ, σ', h => by
    refine ⟨[], rfl, ?_, by simp⟩
    simpa [drawA, afterO] using h
  | (ts, fs) :: pl, [], σ, σ', h => by simp [drawA] at h
  | (ts, fs) :: pl, o :: r, σ, σ', h => by
    simp only [drawA] at h
    split at h
    · rename_i d hd
      split at h
      · rename_i hg
        split at h
        · rename_i v ob ha
          split at h
          · rename_i hm
            simp only [Bool.or_eq_false_iff] at hm
            obtain ⟨outs, h1, h2, h3⟩ := drawA_outs pl r _ σ' h
            refine ⟨some (d, v, ob) :: outs, by simp [h1], by simpa [afterO] using h2, fun i e p out hi hp ho => ?_⟩
            cases i with
            | zero =>
              simp only [List.getElem?_cons_zero, Option.some.injEq] at hi hp ho
              subst hi; subst hp; subst ho
              exact ⟨d, hd, rfl, hg, ha, hm.1, hm.2⟩
            | succ i =>
              have := h3 i e p out (by simpa using hi) (by simpa using hp) (by simpa using ho)
              simpa [afterO] using this
          · simp at h
        · simp at h
      · rename_i hg
        obtain ⟨outs, h1, h2, h3⟩ := drawA_outs pl r _ σ' h
        refine ⟨none :: outs, by simp [h1], by simpa [afterO, addO] using h2, fun i e p out hi hp ho => ?_⟩
        cases i with
        | zero =>
          simp only [List.getElem?_cons_zero, Option.some.injEq] at hi hp ho
          subst hi; subst hp; subst ho
          exact ⟨d, hd, hg⟩
        | succ i =>
          have := h3 i e p out (by simpa using hi) (by simpa using hp) (by simpa using ho)
          simpa [afterO, addO] using this
      · simp at h
    · simp at h
theorem afterO_env {σ : St} : ∀ {outs : List (Option (Nat × V × Option Blk))} {k : Nat} {v : V}, lk k (afterO σ outs).env = some v → lk k σ.env = some v ∨ ∃ (j : Nat) (ob : Option Blk), outs[j]? = some (some (k, v, ob)) := by
  intro outs
  induction outs generalizing σ with
  | nil => intro k v h; exact .inl h
  | cons x r ih =>
    intro k v h
    rcases ih (σ := addO σ x) h with h | ⟨j, ob, hj⟩
    · match x, h with
      | none, h => exact .inl h
      | some (d, u, none), h =>
        simp only [addO, lk_put] at h
        split at h
        · rename_i e; subst e; simp only [Option.some.injEq] at h; subst h; exact .inr ⟨0, none, rfl⟩
        · exact .inl h
      | some (d, u, some b), h =>
        simp only [addO, lk_put] at h
        split at h
        · rename_i e; subst e; simp only [Option.some.injEq] at h; subst h; exact .inr ⟨0, some b, rfl⟩
        · exact .inl h
    · exact .inr ⟨j + 1, ob, by simpa using hj⟩
theorem afterO_env' {σ : St} : ∀ {outs : List (Option (Nat × V × Option Blk))} {k : Nat} {v : V}, lk k (afterO σ outs).env = some v → (lk k σ.env = some v ∧ ∀ (j : Nat) (u : V) (ob : Option Blk), outs[j]? ≠ some (some (k, u, ob))) ∨ ∃ (j : Nat) (ob : Option Blk), outs[j]? = some (some (k, v, ob)) := by
  intro outs
  induction outs generalizing σ with
  | nil => intro k v h; exact .inl ⟨h, fun j u ob => by simp⟩
  | cons x r ih =>
    intro k v h
    rcases ih (σ := addO σ x) h with ⟨h, hn⟩ | ⟨j, ob, hj⟩
    · have hcons : ∀ (hx : ∀ u ob, x ≠ some (k, u, ob)), ∀ (j : Nat) (u : V) (ob : Option Blk), (x :: r)[j]? ≠ some (some (k, u, ob)) := fun hx j u ob e => by
        cases j with
        | zero => simp only [List.getElem?_cons_zero, Option.some.injEq] at e; exact hx u ob e
        | succ j => exact hn j u ob (by simpa using e)
      match x, h, hcons with
      | none, h, hcons => exact .inl ⟨h, hcons (fun u ob e => by simp at e)⟩
      | some (d, u, none), h, hcons =>
        simp only [addO, lk_put] at h
        split at h
        · rename_i e; subst e; simp only [Option.some.injEq] at h; subst h; exact .inr ⟨0, none, rfl⟩
        · rename_i e; exact .inl ⟨h, hcons (fun u ob e2 => by simp only [Option.some.injEq, Prod.mk.injEq] at e2; exact e e2.1.symm)⟩
      | some (d, u, some b), h, hcons =>
        simp only [addO, lk_put] at h
        split at h
        · rename_i e; subst e; simp only [Option.some.injEq] at h; subst h; exact .inr ⟨0, some b, rfl⟩
        · rename_i e; exact .inl ⟨h, hcons (fun u ob e2 => by simp only [Option.some.injEq, Prod.mk.injEq] at e2; exact e e2.1.symm)⟩
    · exact .inr ⟨j + 1, ob, by simpa using hj⟩
theorem afterO_blk {σ : St} : ∀ {outs : List (Option (Nat × V × Option Blk))} {k : Nat} {b : Blk}, lk k (afterO σ outs).blk = some b → lk k σ.blk = some b ∨ ∃ (j : Nat) (v : V), outs[j]? = some (some (k, v, some b)) := by
  intro outs
  induction outs generalizing σ with
  | nil => intro k v h; exact .inl h
  | cons x r ih =>
    intro k v h
    rcases ih (σ := addO σ x) h with h | ⟨j, ob, hj⟩
    · match x, h with
      | none, h => exact .inl h
      | some (d, u, none), h => exact .inl h
      | some (d, u, some b), h =>
        simp only [addO, lk_put] at h
        split at h
        · rename_i e; subst e; simp only [Option.some.injEq] at h; subst h; exact .inr ⟨0, u, rfl⟩
        · exact .inl h
    · exact .inr ⟨j + 1, ob, by simpa using hj⟩
end Go.Proofs.Ytoafhoihigfllaa.E
