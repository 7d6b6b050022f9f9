/-
  The chapter of the treaty: wishes, orders, rings in plain words, to whom nations point. Conditions: none.
-/
import Derived.Test.YtoafhoihigfllaaTx
import Derived.Test.YtoafhoihigfllaaTn
namespace Go.Proofs.Ytoafhoihigfllaa.E
open Go Go.RowKit
set_option linter.unusedVariables false
set_option linter.unusedSimpArgs false
def rowF (p : Bool × List Int) : FV := .sl p.1 1 (ints p.2)
def rowsF (w : List (Bool × List Int)) : List FV := w.map rowF
@[simp] theorem rowsF_length (w : List (Bool × List Int)) : (rowsF w).length = w.length := by simp [rowsF]
@[simp] theorem rowsF_get (w : List (Bool × List Int)) (i : Nat) (h : i < (rowsF w).length) : (rowsF w)[i] = rowF (w[i]'(by simpa using h)) := by simp [rowsF]
@[simp] theorem rowsF_get? (w : List (Bool × List Int)) (i : Nat) : (rowsF w)[i]? = w[i]?.map rowF := by simp [rowsF]
/-- one place after the other, all different: an order of 0 .. below-1 -/
def goodAt (l : List Int) (below : Nat) (i : Nat) : Bool := (decide (0 ≤ l.getD i 0) && decide (l.getD i 0 ≤ (below : Int) - 1)) && decide (idx (· == l.getD i 0) l = i)
def onceI (l : List Int) (below : Nat) : Bool := ((l.length : Int) == below) && (List.range l.length).all (goodAt l below)
def H40 (ctx : Ctx) : Prop := ∀ (l : List Int) (n : Int), l.length < 2^62 → ∀ (ro r2 c : Bool), ctx 40 [(ro, .sl c 1 (ints l)), (r2, .int .i64 n)] = some [.fv (.int .i64 (idx (· == n) l))]
theorem v62 (ctx : Ctx) (hC : CtxOk (pg ctx)) (h36 : H36 ctx) (h40 : H40 ctx) (l : List Int) (hl : l.length < 2^62) (below : Nat) (hbw : below < 2^62) (ro r2 c : Bool) :
    Valid Try.prog 62 [(ro, .sl c 1 (ints l)), (r2, .int .i64 below)] [.fv (.bool (onceI l below))] := by
  refine valid_of_ev (G := pg ctx) (tok ctx) hC mixed Try.func62 T62 L62 (by simp [Try.ntmps62]) ⟨_, rfl, ?_⟩
  simp only [Try.ntmps62, Try.results62, initSt, initEnv]
  have e36 : ∀ (r1 r2 r3 : Bool) (n : Int), ctx 36 [(r1, .int .i64 n), (r2, .int .i64 0), (r3, .int .i64 ((below : Int) - 1))] = some [.fv (.bool (decide (0 ≤ n) && decide (n ≤ (below : Int) - 1)))] := fun r1 r2 r3 n => h36 r1 r2 r3 n 0 _
  have e40 := fun ro r2 c n => h40 l n hl ro r2 c
  have hwb : IntKind.i64.wrap ((below : Int) - 1) = (below : Int) - 1 := wrap_id (by omega) (by omega)
  obtain ⟨A, hA⟩ : ∃ A, A = ((l.length : Int) == below) := ⟨_, rfl⟩
  rw [onceI, ← hA]
  refine ev_seq (ev_reg (by simp; rfl) ?_)  -- region 0
  refine ev_seq (ev_reg (by simp [← hA]; rfl) ?_)  -- region 1
  refine ev_seq (ev_seq (ev_reg (by simp; rfl) ?_))  -- region 2
  refine ev_block ?_  -- 0
  refine ev_loop (fun x : Nat × Bool => ({ env := [(0, V.fv ro (FV.sl c 1 (ints l))), (1, V.fv r2 (.int .i64 below)), (5, V.fv false (.bool x.2)), (6, V.fv false (FV.int .i64 x.1))], blk := [] } : St)) (fun x => l.length - x.1) (fun x => x.1 ≤ l.length ∧ x.2 = (A && (List.range x.1).all (goodAt l below))) (0, A) rfl (by simp) (by simp [R]; omega) (fun x hi => ?_)
  obtain ⟨i, ok⟩ := x
  obtain ⟨hi, hn⟩ := hi
  simp only at hi hn
  cases ok with
  | true =>
    refine ev_seq (ev_seq (ev_reg (by simp; rfl) ?_))  -- region 3
    refine ev_cond rfl (fun hb => ?_) (fun hb => ?_)  -- 17
    · simp at hb
      have hg : l.getD i 0 = l[i] := by simp [List.getD_eq_getElem?_getD, List.getElem?_eq_getElem hb]
      have hw1 : IntKind.i64.wrap ((i : Int) + 1) = (i + 1 : Nat) := wrap_nat (n := i + 1) (by omega)
      have hst : (A && (List.range (i + 1)).all (goodAt l below)) = goodAt l below i := by
        rw [List.range_succ, List.all_append, ← Bool.and_assoc, ← hn]; simp
      refine ev_skip ?_
      refine ev_seq (ev_block ?_)  -- 1
      obtain ⟨B, hB⟩ : ∃ B, B = (decide (0 ≤ l[i]) && decide (l[i] ≤ (below : Int) - 1)) := ⟨_, rfl⟩
      have e36' : ∀ (r1 r2 r3 : Bool), ctx 36 [(r1, .int .i64 l[i]), (r2, .int .i64 0), (r3, .int .i64 ((below : Int) - 1))] = some [.fv (.bool B)] := fun r1 r2 r3 => by rw [e36, hB]
      have hgood : goodAt l below i = (B && decide (idx (· == l[i]) l = i)) := by rw [goodAt, hg, hB]
      cases B with
      | true =>
        refine ev_reg (by simp [hb, hwb, e36', e40]; rfl) ?_  -- region 5
        refine ev_reg (by simp [hw1]; rfl) ?_  -- region 4
        exact ⟨(i + 1, _), rfl, ⟨by simp only; omega, by simp only; rw [hst, hgood]; simp; rfl⟩, by simp only; omega⟩
      | false =>
        refine ev_reg (by simp [hb, hwb, e36', unsetS]; rfl) ?_  -- region 5
        refine ev_reg (by simp [hw1]; rfl) ?_  -- region 4
        exact ⟨(i + 1, false), rfl, ⟨by simp only; omega, by simp only; rw [hst, hgood]; rfl⟩, by simp only; omega⟩
    · simp at hb
      refine ev_exit ?_  -- 0
      refine ev_seq (ev_reg (by simp; rfl) ?_)  -- region 6
      refine ev_ret ?_
      have : i = l.length := by omega
      subst this
      simp [← hn]
  | false =>
    refine ev_seq (ev_seq (ev_reg (by simp [unsetS]; rfl) ?_))  -- region 3
    refine ev_cond rfl (fun hb => by simp at hb) (fun hb => ?_)  -- 17
    refine ev_exit ?_  -- 0
    refine ev_seq (ev_reg (by simp; rfl) ?_)  -- region 6
    refine ev_ret ?_
    have hbad : (A && (List.range l.length).all (goodAt l below)) = false := by
      cases A with
      | false => rfl
      | true =>
        simp only [Bool.true_and] at hn ⊢
        have hn' := hn.symm
        rw [List.all_eq_false] at hn' ⊢
        obtain ⟨x, hx, hw⟩ := hn'
        exact ⟨x, by simp only [List.mem_range] at hx ⊢; omega, hw⟩
    simp [hbad]
theorem v23 (ctx : Ctx) (hC : CtxOk (pg ctx)) (h17 : H17 ctx) (a b : List (Bool × List Int)) (ha : a.length < 2^62) (hb : b.length < 2^62) (hai : ∀ p ∈ a, p.2.length < 2^62) (hbi : ∀ p ∈ b, p.2.length < 2^62) (ro r2 c c2 : Bool) :
    Valid Try.prog 23 [(ro, .sl c 1 (rowsF a)), (r2, .sl c2 1 (rowsF b))] [.fv (.bool (decide (a.map (·.2) = b.map (·.2))))] := by
  refine valid_of_ev (G := pg ctx) (tok ctx) hC mixed Try.func23 T23 L23 (by simp [Try.ntmps23]) ⟨_, rfl, ?_⟩
  simp only [Try.ntmps23, Try.results23, initSt, initEnv]
  refine ev_seq (ev_reg (by simp; rfl) ?_)  -- region 0
  refine ev_seq (ev_seq (ev_reg (by simp; rfl) ?_))  -- region 1
  refine ev_cond rfl (fun hb1 => ?_) (fun hb1 => ?_)  -- 10
  · simp at hb1
    refine ev_seq (ev_reg (by simp; rfl) ?_)  -- region 2
    refine ev_ret ?_
    have : ¬ a.map (·.2) = b.map (·.2) := fun e => hb1 (by have := congrArg List.length e; simp only [List.length_map] at this; omega)
    simp [this]
  · simp at hb1
    refine ev_skip ?_
    refine ev_seq (ev_seq (ev_reg (by simp; rfl) ?_))  -- region 3
    refine ev_block ?_  -- 0
    refine ev_loop (fun i : Nat => ({ env := [(0, V.fv ro (FV.sl c 1 (rowsF a))), (1, V.fv r2 (FV.sl c2 1 (rowsF b))), (5, V.fv false (FV.int .i64 i))], blk := [] } : St)) (fun i => a.length - i) (fun i => i ≤ a.length ∧ (a.map (·.2)).take i = (b.map (·.2)).take i) 0 rfl (by simp) (by simp [R]; omega) (fun i hi => ?_)
    obtain ⟨hi, hn⟩ := hi
    refine ev_seq (ev_seq (ev_reg (by simp; rfl) ?_))  -- region 4
    refine ev_cond rfl (fun hb2 => ?_) (fun hb2 => ?_)  -- 14
    · simp at hb2
      have hb3 : i < b.length := by omega
      have e17 := h17 a[i].2 b[i].2 (hai _ (List.getElem_mem _)) (hbi _ (List.getElem_mem _))
      have e1 : (a.map (·.2))[i]? = some a[i].2 := by simp [List.getElem?_eq_getElem hb2]
      have e2 : (b.map (·.2))[i]? = some b[i].2 := by simp [List.getElem?_eq_getElem hb3]
      refine ev_skip ?_
      refine ev_seq (ev_block ?_)  -- 1
      refine ev_seq (ev_drw rfl (by kernel_rfl) (by kernel_rfl) (by simp [hb2, hb3, rowF, e17]; rfl) ?_)  -- region 6
      refine ev_cond rfl (fun hb4 => ?_) (fun hb4 => ?_)  -- 26
      · simp at hb4
        refine ev_seq (ev_reg (by simp; rfl) ?_)  -- region 7
        refine ev_ret ?_
        have : ¬ a.map (·.2) = b.map (·.2) := fun e => by
          rw [e, e2] at e1
          exact hb4 (Option.some.inj e1).symm
        simp [this]
      · simp at hb4
        refine ev_skip ?_
        refine ev_reg (by simp; rfl) ?_  -- region 5
        refine ⟨i + 1, ?_, ⟨by omega, ?_⟩, by omega⟩
        · simp
          exact wrap_nat (n := i + 1) (by omega)
        · rw [List.take_add_one, List.take_add_one, e1, e2, hn, hb4]
    · simp at hb2
      refine ev_exit ?_  -- 0
      refine ev_seq (ev_reg (by simp; rfl) ?_)  -- region 8
      refine ev_ret ?_
      have : a.map (·.2) = b.map (·.2) := by
        rw [List.take_of_length_le (by simpa using hb2), List.take_of_length_le (by simp; omega)] at hn
        exact hn
      simp [this]
def H62 (ctx : Ctx) : Prop := ∀ (l : List Int) (below : Nat), l.length < 2^62 → below < 2^62 → ∀ (ro r2 c : Bool), ctx 62 [(ro, .sl c 1 (ints l)), (r2, .int .i64 below)] = some [.fv (.bool (onceI l below))]
def okWishes (w : List (Bool × List Int)) : Bool := (decide ((1 : Int) ≤ w.length) && decide ((w.length : Int) ≤ 8)) && w.all fun p => onceI p.2 w.length
theorem v25 (ctx : Ctx) (hC : CtxOk (pg ctx)) (h36 : H36 ctx) (h62 : H62 ctx) (w : List (Bool × List Int)) (hl : w.length < 2^62) (hw : ∀ p ∈ w, p.2.length < 2^62) (ro c : Bool) :
    Valid Try.prog 25 [(ro, .sl c 1 (rowsF w))] [.fv (.int .i64 (if okWishes w then 0 else 101))] := by
  refine valid_of_ev (G := pg ctx) (tok ctx) hC mixed Try.func25 T25 L25 (by simp [Try.ntmps25]) ⟨_, rfl, ?_⟩
  simp only [Try.ntmps25, Try.results25, initSt, initEnv]
  obtain ⟨A, hA⟩ : ∃ A, A = (decide ((1 : Int) ≤ w.length) && decide ((w.length : Int) ≤ 8)) := ⟨_, rfl⟩
  have eA : ∀ (r1 r2 r3 : Bool), ctx 36 [(r1, .int .i64 w.length), (r2, .int .i64 1), (r3, .int .i64 8)] = some [.fv (.bool A)] := fun r1 r2 r3 => by rw [hA]; exact h36 r1 r2 r3 _ _ _
  rw [okWishes, ← hA]
  clear hA
  refine ev_seq (ev_reg (by simp; rfl) ?_)  -- region 0
  refine ev_seq (ev_reg (by simp [eA]; rfl) ?_)  -- region 1
  refine ev_seq (ev_seq (ev_reg (by simp; rfl) ?_))  -- region 2
  refine ev_block ?_  -- 0
  refine ev_loop (fun x : Nat × Bool => ({ env := [(0, V.fv ro (FV.sl c 1 (rowsF w))), (3, V.fv false (.bool x.2)), (4, V.fv false (FV.int .i64 x.1))], blk := [] } : St)) (fun x => w.length - x.1) (fun x => x.1 ≤ w.length ∧ x.2 = (A && (w.take x.1).all fun p => onceI p.2 w.length)) (0, A) rfl (by simp) (by simp [R]; omega) (fun x hi => ?_)
  obtain ⟨i, ok⟩ := x
  obtain ⟨hi, hn⟩ := hi
  simp only at hi hn
  cases ok with
  | true =>
    refine ev_seq (ev_seq (ev_reg (by simp; rfl) ?_))  -- region 3
    refine ev_cond rfl (fun hb => ?_) (fun hb => ?_)  -- 14
    · simp at hb
      have hw1 : IntKind.i64.wrap ((i : Int) + 1) = (i + 1 : Nat) := wrap_nat (n := i + 1) (by omega)
      have e62 := fun ro r2 c => h62 w[i].2 w.length (hw _ (List.getElem_mem _)) hl ro r2 c
      refine ev_skip ?_
      refine ev_seq (ev_block ?_)  -- 1
      refine ev_reg (by simp [hb, rowF, e62]; rfl) ?_  -- region 5
      refine ev_reg (by simp [hw1]; rfl) ?_  -- region 4
      exact ⟨(i + 1, onceI w[i].2 w.length), rfl, ⟨by simp only; omega, by
        simp only [List.take_add_one, List.getElem?_eq_getElem hb, Option.toList_some, List.all_append, List.all_cons, List.all_nil, Bool.and_true]
        rw [← Bool.and_assoc, ← hn, Bool.true_and]⟩, by simp only; omega⟩
    · simp at hb
      have hA : A = true ∧ (w.all fun p => onceI p.2 w.length) = true := by
        rw [List.take_of_length_le hb] at hn
        simpa using hn.symm
      refine ev_exit ?_  -- 0
      refine ev_seq (ev_seq (ev_reg (by simp; rfl) ?_))  -- region 6
      refine ev_cond rfl (fun hb => by simp at hb) (fun hb => ?_)  -- 25
      refine ev_skip ?_
      refine ev_seq (ev_reg (by simp; rfl) ?_)  -- region 8
      refine ev_ret ?_
      rw [hA.1, hA.2]; simp
  | false =>
    have hbad : (A && w.all fun p => onceI p.2 w.length) = false := by
      cases A with
      | false => rfl
      | true =>
        simp only [Bool.true_and] at hn ⊢
        have hn' := hn.symm
        rw [List.all_eq_false] at hn' ⊢
        obtain ⟨x, hx, hw⟩ := hn'
        exact ⟨x, List.mem_of_mem_take hx, hw⟩
    refine ev_seq (ev_seq (ev_reg (by simp [unsetS]; rfl) ?_))  -- region 3
    refine ev_cond rfl (fun hb => by simp at hb) (fun hb => ?_)  -- 14
    refine ev_exit ?_  -- 0
    refine ev_seq (ev_seq (ev_reg (by simp; rfl) ?_))  -- region 6
    refine ev_cond rfl (fun hb => ?_) (fun hb => by simp at hb)  -- 25
    refine ev_seq (ev_reg (by simp; rfl) ?_)  -- region 7
    refine ev_ret ?_
    rw [hbad]; simp
end Go.Proofs.Ytoafhoihigfllaa.E
namespace Go.Proofs.Ytoafhoihigfllaa.E
open Go Go.RowKit
set_option linter.unusedVariables false
set_option linter.unusedSimpArgs false
/-- the program, with the library's sort -/
noncomputable def pgs (ctx : Ctx) : Pg := { pg ctx with srt := libSrt }
@[simp] theorem pgs_tbl (ctx : Ctx) : (pgs ctx).tbl = tbl := rfl
@[simp] theorem pgs_ctx (ctx : Ctx) : (pgs ctx).ctx = ctx := rfl
@[simp] theorem pgs_keys (ctx : Ctx) : (pgs ctx).keys = [98] := rfl
@[simp] theorem pgs_inl (ctx : Ctx) (k d : Nat) (σ : St) (a : List V) : (pgs ctx).inl k d σ a = none := rfl
@[simp] theorem pgs_fz (ctx : Ctx) (k : Nat) : (pgs ctx).fz k = false := rfl
@[simp] theorem pgs_yl (ctx : Ctx) : (pgs ctx).yl = none := rfl
@[simp] theorem pgs_eqs (ctx : Ctx) : (pgs ctx).eqs = [(80, (8, true)), (98, (2, false))] := rfl
@[simp] theorem pgs_srt (ctx : Ctx) : (pgs ctx).srt = libSrt := rfl
theorem toks (ctx : Ctx) : TOk (pgs ctx) := ⟨(tok ctx).tt, (tok ctx).ee, (tok ctx).kk, (tok ctx).zv⟩
theorem toInts_ints : ∀ l : List Int, toInts (ints l) = some l
  | [] => rfl
  | x :: r => by simp only [ints_cons, toInts, toInts_ints r]
theorem srt_hit {l : List Int} (hl : l.length < 2^62) : libSrt 82 1 (ints l) = some (ints (isort l)) := by
  simp only [libSrt, if_true, toInts_ints]
  rw [if_pos (by omega)]
theorem isort_length (l : List Int) : (isort l).length = l.length := (isort_perm l).length_eq
def orderI (l : List Int) (below : Nat) : Bool := (List.range l.length).all (fun i => decide ((isort l).getD i 0 = i)) && ((l.length : Int) == below)
def H81 (ctx : Ctx) : Prop := ∀ (l : List Int) (ro c : Bool), l.length * 8 ≤ 140737488355328 → ctx 81 [(ro, .sl c 1 (ints l))] = some [.us 1 (ints l)]
theorem v61 (ctx : Ctx) (hC : CtxOk (pgs ctx)) (h81 : H81 ctx) (hn : ∀ xs, ctx 82 xs = none) (l : List Int) (hl : l.length * 8 ≤ 140737488355328) (below : Nat) (ro r2 c : Bool) :
    Valid Try.prog 61 [(ro, .sl c 1 (ints l)), (r2, .int .i64 below)] [.fv (.bool (orderI l below))] := by
  refine valid_of_ev (G := pgs ctx) (toks ctx) hC mixed Try.func61 T61 L61 (by simp [Try.ntmps61]) ⟨_, rfl, ?_⟩
  simp only [Try.ntmps61, Try.results61, initSt, initEnv]
  have e81 := fun ro c => h81 l ro c hl
  have e82 := srt_hit (l := l) (by omega)
  have hsl := isort_length l
  refine ev_seq (ev_reg (by simp; rfl) ?_)  -- region 0
  refine ev_seq (ev_reg (by simp [e81]; rfl) ?_)  -- region 1
  refine ev_seq (ev_reg (by simp [hn, e82, hsl]; rfl) ?_)  -- region 2
  refine ev_seq (ev_seq (ev_reg (by simp; rfl) ?_))  -- region 3
  refine ev_block ?_  -- 0
  unfold orderI
  generalize hm : isort l = m at hsl
  refine ev_loop (fun i : Nat => ({ env := [(0, V.own 0 0 l.length), (1, V.fv r2 (FV.int IntKind.i64 ↑below)), (11, V.own 0 0 l.length), (12, V.fv false (FV.int IntKind.i64 ↑l.length)), (13, V.fv false (FV.int IntKind.i64 i))], blk := [(0, Blk.arr 1 (ints m))] } : St)) (fun i => l.length - i) (fun i => i ≤ l.length ∧ (List.range i).all (fun i => decide (m.getD i 0 = i)) = true) 0 rfl (by simp) (by simp [R]; omega) (fun i hi => ?_)
  obtain ⟨hi, hn⟩ := hi
  refine ev_seq (ev_reg (by simp; rfl) ?_)  -- region 4
  refine ev_seq (ev_cond rfl (fun hb => ?_) (fun hb => ?_))  -- 14
  · simp at hb
    have hm1 : i < m.length := by omega
    have hmi : m.getD i 0 = m[i] := by simp [List.getD_eq_getElem?_getD, List.getElem?_eq_getElem hm1]
    have hw1 : IntKind.i64.wrap ((i : Int) + 1) = (i + 1 : Nat) := wrap_nat (n := i + 1) (by omega)
    refine ev_skip ?_
    refine ev_seq (ev_block ?_)  -- 1
    refine ev_seq (ev_reg (by simp [hb, hm1]; rfl) ?_)  -- region 5
    refine ev_seq (ev_reg (by simp; rfl) ?_)  -- region 6
    refine ev_cond rfl (fun hb => ?_) (fun hb => ?_)  -- 20
    · simp at hb
      refine ev_seq (ev_reg (by simp; rfl) ?_)  -- region 7
      refine ev_ret ?_
      have : (List.range l.length).all (fun i => decide (m.getD i 0 = i)) = false := by
        rw [List.all_eq_false]
        exact ⟨i, by simp; omega, by rw [hmi]; simpa using hb⟩
      simp only [this]
      simp
    · simp at hb
      refine ev_skip ?_
      refine ev_reg (by simp [hw1]; rfl) ?_  -- region 8
      refine ⟨i + 1, rfl, ⟨by omega, ?_⟩, by omega⟩
      rw [List.range_succ, List.all_append, hn]
      simp only [Bool.true_and, List.all_cons, List.all_nil, Bool.and_true, hmi, hb]
      simp
  · simp at hb
    have : i = l.length := by omega
    subst this
    refine ev_exit ?_  -- 0
    refine ev_seq (ev_reg (by simp; rfl) ?_)  -- region 9
    refine ev_ret ?_
    simp only [hn]
    simp
end Go.Proofs.Ytoafhoihigfllaa.E
namespace Go.Proofs.Ytoafhoihigfllaa.E
open Go Go.RowKit
set_option linter.unusedVariables false
set_option linter.unusedSimpArgs false
/-- a list has each number below n just once -/
structure IsOrd (l : List Int) (n : Nat) : Prop where
  len : l.length = n
  rng : ∀ x ∈ l, 0 ≤ x ∧ x < n
  nd : l.Nodup
theorem idx_iff {l : List Int} {i : Nat} (h : i < l.length) : idx (· == l[i]) l = i ↔ ∀ j, (hj : j < i) → l[j]'(by omega) ≠ l[i] := by
  have key : idx (· == l[i]) l = i ↔ l.findIdx? (· == l[i]) = some i := by
    unfold idx
    cases l.findIdx? (· == l[i]) with
    | none => simp
    | some k => simp only [Option.some.injEq]; omega
  rw [key, List.findIdx?_eq_some_iff_getElem]
  constructor
  · rintro ⟨_, _, h2⟩ j hj e
    exact h2 j hj (by simp [e])
  · intro g
    exact ⟨h, by simp, fun j hj => by simpa using g j hj⟩
theorem once_iff {l : List Int} {n : Nat} : onceI l n = true ↔ IsOrd l n := by
  unfold onceI
  simp only [Bool.and_eq_true, beq_iff_eq, List.all_eq_true, List.mem_range]
  constructor
  · rintro ⟨h1, h2⟩
    have h3 : ∀ i (h : i < l.length), (0 ≤ l[i] ∧ l[i] ≤ (n : Int) - 1) ∧ idx (· == l[i]) l = i := fun i h => by
      have := h2 i h
      simpa [goodAt, List.getD_eq_getElem?_getD, List.getElem?_eq_getElem h] using this
    refine ⟨by omega, fun x hx => ?_, ?_⟩
    · obtain ⟨i, hi, rfl⟩ := List.getElem_of_mem hx
      have := (h3 i hi).1
      omega
    · rw [List.nodup_iff_pairwise_ne, List.pairwise_iff_getElem]
      intro i j hi hj hij
      exact (idx_iff hj).mp (h3 j hj).2 i hij
  · rintro ⟨h1, h2, h3⟩
    refine ⟨by omega, fun i hi => ?_⟩
    have e := h2 l[i] (List.getElem_mem _)
    rw [List.nodup_iff_pairwise_ne, List.pairwise_iff_getElem] at h3
    have e2 := (idx_iff hi).mpr (fun j hj => h3 j i (by omega) hi hj)
    have e3 : l[i] ≤ (n : Int) - 1 := by omega
    simp [goodAt, List.getD_eq_getElem?_getD, List.getElem?_eq_getElem hi, e.1, e3, e2]
theorem steep {l : List Int} (h : l.Pairwise (· < ·)) {i j : Nat} (hij : i ≤ j) (hj : j < l.length) : l[i] + ((j - i : Nat) : Int) ≤ l[j] := by
  rw [List.pairwise_iff_getElem] at h
  obtain ⟨d, rfl⟩ : ∃ d, j = i + d := ⟨j - i, by omega⟩
  revert hj
  induction d with
  | zero => intro hj; simp
  | succ d ih =>
    intro hj
    have h1 := ih (by omega) (by omega)
    have h2 := h (i + d) (i + (d + 1)) (by omega) hj (by omega)
    omega
theorem order_iff {l : List Int} {n : Nat} : orderI l n = true ↔ IsOrd l n := by
  unfold orderI
  simp only [Bool.and_eq_true, beq_iff_eq, List.all_eq_true, List.mem_range, decide_eq_true_eq]
  have hp := isort_perm l
  have hL := hp.length_eq
  constructor
  · rintro ⟨h1, h2⟩
    have h3 : ∀ i (h : i < (isort l).length), (isort l)[i] = (i : Int) := fun i h => by
      have := h1 i (by omega)
      simpa [List.getD_eq_getElem?_getD, List.getElem?_eq_getElem h] using this
    refine ⟨by omega, fun x hx => ?_, ?_⟩
    · obtain ⟨i, hi, rfl⟩ := List.getElem_of_mem (hp.mem_iff.mpr hx)
      rw [h3 i hi]
      omega
    · refine hp.nodup_iff.mp ?_
      rw [List.nodup_iff_pairwise_ne, List.pairwise_iff_getElem]
      intro i j hi hj hij
      rw [h3 i hi, h3 j hj]
      omega
  · rintro ⟨h1, h2, h3⟩
    refine ⟨fun i hi => ?_, by omega⟩
    have hs : (isort l).Pairwise (· < ·) := by
      have a := isort_pw l
      have b := hp.nodup_iff.mpr h3
      rw [List.nodup_iff_pairwise_ne] at b
      exact (a.and b).imp fun ⟨x, y⟩ => by omega
    have hi' : i < (isort l).length := by omega
    have e0 := steep hs (Nat.zero_le i) hi'
    have e1 := steep hs (i := i) (j := (isort l).length - 1) (by omega) (by omega)
    have r0 := h2 (isort l)[0] (hp.mem_iff.mp (List.getElem_mem _))
    have r1 := h2 ((isort l)[(isort l).length - 1]'(by omega)) (hp.mem_iff.mp (List.getElem_mem _))
    rw [List.getD_eq_getElem?_getD, List.getElem?_eq_getElem hi']
    simp only [Option.getD_some]
    omega
theorem order_once (l : List Int) (n : Nat) : orderI l n = onceI l n := by
  rw [Bool.eq_iff_iff, order_iff, once_iff]
def H61 (ctx : Ctx) : Prop := ∀ (l : List Int) (below : Nat), l.length * 8 ≤ 140737488355328 → ∀ (ro r2 c : Bool), ctx 61 [(ro, .sl c 1 (ints l)), (r2, .int .i64 below)] = some [.fv (.bool (orderI l below))]
/-- no order of so many -/
def noOrder (n : Nat) (p : Bool × List Int) : Bool := !onceI p.2 n
theorem v60 (ctx : Ctx) (hC : CtxOk (pg ctx)) (h61 : H61 ctx) (p : Bool × List Int) (hl : p.2.length * 8 ≤ 140737488355328) (w : List (Bool × List Int)) (ro r2 c : Bool) :
    Valid Try.prog 60 [(ro, rowF p), (r2, .pt [.sl c 1 (rowsF w)] 0)] [.fv (.bool (noOrder w.length p))] := by
  refine valid_of_ev (G := pg ctx) (tok ctx) hC mixed Try.func60 T60 L60 (by simp [Try.ntmps60]) ⟨_, rfl, ?_⟩
  simp only [Try.ntmps60, Try.results60, initSt, initEnv, rowF]
  have e61 := h61 p.2 w.length hl
  rw [order_once] at e61
  refine ev_seq (ev_reg (by simp; rfl) ?_)  -- region 0
  refine ev_seq (ev_reg (by simp [e61]; rfl) ?_)  -- region 1
  refine ev_ret ?_
  simp [noOrder]
/-- the place of the first that a function likes; -1: of none -/
def idxG {α : Type} (p : α → Bool) (l : List α) : Int := match l.findIdx? p with | some i => i | none => -1
theorem idxG_nonneg {α : Type} (p : α → Bool) (l : List α) : decide (0 ≤ idxG p l) = l.any p := by
  unfold idxG
  cases h : l.findIdx? p with
  | none =>
    simp only [List.findIdx?_eq_none_iff] at h
    have : l.any p = false := by simpa using h
    rw [this]; rfl
  | some i =>
    rw [List.findIdx?_eq_some_iff_getElem] at h
    obtain ⟨hi, hp, _⟩ := h
    have : l.any p = true := by simp only [List.any_eq_true]; exact ⟨_, List.getElem_mem hi, hp⟩
    rw [this]; simp
theorem v80 (ctx : Ctx) (hC : CtxOk (pg ctx)) (k : FuncId) (p : Bool × List Int → Bool) (w : List (Bool × List Int)) (hl : w.length < 2^62) (ro rf c : Bool) (caps : List FV) (hk : ∀ x ∈ w, ∀ q, ctx k ((q, rowF x) :: caps.map fun y => (rf, y)) = some [.fv (.bool (p x))]) : Valid Try.prog 80 [(ro, .sl c 1 (rowsF w)), (rf, .fn (.func k) [] caps)] [.fv (.int .i64 (idxG p w))] := by
  refine valid_of_ev (G := pg ctx) (tok ctx) hC mixed Try.func80 T80 L80 (by simp [Try.ntmps80]) ⟨_, rfl, ?_⟩
  simp only [Try.ntmps80, Try.results80, initSt, initEnv]
  refine ev_seq (ev_reg (by simp; rfl) ?_)  -- region 0
  refine ev_seq (ev_seq (ev_reg (by simp; rfl) ?_))  -- region 1
  refine ev_block ?_  -- 0
  refine ev_loop (fun i : Nat => ({ env := [(0, V.fv ro (FV.sl c 1 (rowsF w))), (1, V.fv rf (.fn (.func k) [] caps)), (7, V.fv false (FV.int .i64 w.length)), (8, V.fv false (FV.int .i64 i))], blk := [] } : St)) (fun i => w.length - i) (fun i => i ≤ w.length ∧ ∀ j, (h : j < w.length) → j < i → p w[j] = false) 0 rfl (by simp) (by simp [R]; omega) (fun i hi => ?_)
  obtain ⟨hi, hn⟩ := hi
  refine ev_seq (ev_reg (by simp; rfl) ?_)  -- region 2
  refine ev_seq (ev_cond rfl (fun hb => ?_) (fun hb => ?_))  -- 9
  · simp at hb
    refine ev_skip ?_
    refine ev_seq (ev_block ?_)  -- 1
    refine ev_seq (ev_reg (by simp; rfl) ?_)  -- region 3
    have hm := hk w[i] (by simp)
    simp only [rowF] at hm
    refine ev_seq (ev_reg (by simp [hb, rowF, hm]; rfl) ?_)  -- region 4
    refine ev_cond rfl (fun hb2 => ?_) (fun hb2 => ?_)  -- 16
    · refine ev_seq (ev_reg (by simp; rfl) ?_)  -- region 5
      refine ev_ret ?_
      have : w.findIdx? p = some i := by
        rw [List.findIdx?_eq_some_iff_getElem]
        exact ⟨hb, hb2, fun j hj => by rw [hn j (by omega) hj]; simp⟩
      simp [idxG, this]
    · refine ev_skip ?_
      refine ev_reg (by simp; rfl) ?_  -- region 6
      refine ⟨i + 1, ?_, ⟨by omega, fun j h hj => ?_⟩, by omega⟩
      · simp
        exact wrap_nat (n := i + 1) (by omega)
      · by_cases e : j = i
        · subst e; exact hb2
        · exact hn j h (by omega)
  · simp at hb
    refine ev_exit ?_  -- 0
    refine ev_seq (ev_reg (by simp; rfl) ?_)  -- region 7
    refine ev_ret ?_
    have hnone : w.findIdx? p = none := by
      rw [List.findIdx?_eq_none_iff]
      intro x hx
      obtain ⟨j, hj, rfl⟩ := List.getElem_of_mem hx
      exact hn j hj (by omega)
    simp [idxG, hnone]
def H80 (ctx : Ctx) (k : FuncId) (caps : List FV) (p : Bool × List Int → Bool) (w : List (Bool × List Int)) : Prop := ∀ (ro rf c : Bool), ctx 80 [(ro, .sl c 1 (rowsF w)), (rf, .fn (.func k) [] caps)] = some [.fv (.int .i64 (idxG p w))]
theorem v59 (ctx : Ctx) (hC : CtxOk (pg ctx)) (k : FuncId) (p : Bool × List Int → Bool) (caps : List FV) (w : List (Bool × List Int)) (h80 : H80 ctx k caps p w) (ro rf c : Bool) : Valid Try.prog 59 [(ro, .sl c 1 (rowsF w)), (rf, .fn (.func k) [] caps)] [.fv (.bool (w.any p))] := by
  refine valid_of_ev (G := pg ctx) (tok ctx) hC mixed Try.func59 T59 L59 (by simp [Try.ntmps59]) ⟨_, rfl, ?_⟩
  simp only [Try.ntmps59, Try.results59, initSt, initEnv]
  refine ev_seq (ev_reg (by simp; rfl) ?_)  -- region 0
  refine ev_seq (ev_reg (by simp [h80 ro rf c]; rfl) ?_)  -- region 1
  refine ev_ret ?_
  simp [idxG_nonneg]
def H59 (ctx : Ctx) (w : List (Bool × List Int)) (cw : Bool) : Prop := ∀ (ro rf c : Bool), ctx 59 [(ro, .sl c 1 (rowsF w)), (rf, .fn (.func 60) [] [.pt [.sl cw 1 (rowsF w)] 0])] = some [.fv (.bool (w.any (noOrder w.length)))]
theorem v24 (ctx : Ctx) (hC : CtxOk (pg ctx)) (h51 : H51 ctx) (w : List (Bool × List Int)) (ro c : Bool) (h59 : H59 ctx w c) :
    Valid Try.prog 24 [(ro, .sl c 1 (rowsF w))] [.fv (.int .i64 (if okWishes w then 0 else 101))] := by
  refine valid_of_ev (G := pg ctx) (tok ctx) hC mixed Try.func24 T24 L24 (by simp [Try.ntmps24]) ⟨_, rfl, ?_⟩
  simp only [Try.ntmps24, Try.results24, initSt, initEnv]
  obtain ⟨A, hA⟩ : ∃ A, A = (decide ((1 : Int) ≤ w.length) && decide ((w.length : Int) ≤ 8)) := ⟨_, rfl⟩
  have eA : ∀ (r1 r2 r3 : Bool), ctx 51 [(r1, .int .i64 w.length), (r2, .int .i64 1), (r3, .int .i64 8)] = some [.fv (.bool A)] := fun r1 r2 r3 => by rw [hA]; exact h51 r1 r2 r3 _ _ _
  obtain ⟨B, hB⟩ : ∃ B, B = w.any (noOrder w.length) := ⟨_, rfl⟩
  have hok : okWishes w = (A && !B) := by
    rw [okWishes, ← hA, hB]
    congr 1
    rw [List.all_eq_not_any_not]
    rfl
  rw [hok]
  clear hA hok
  simp only [H59, ← hB] at h59
  clear hB
  refine ev_seq (ev_reg (by simp [boxA, vcells]; rfl) ?_)  -- region 0
  cases A with
  | false =>
    refine ev_seq (ev_seq (ev_reg (by simp [eA, unsetS]; rfl) ?_))  -- region 1
    refine ev_cond rfl (fun hb => ?_) (fun hb => by simp at hb)  -- 11
    refine ev_seq (ev_reg (by simp; rfl) ?_)  -- region 2
    refine ev_ret ?_
    simp
  | true =>
    refine ev_seq (ev_seq (ev_reg (by simp [eA, h59]; rfl) ?_))  -- region 1
    cases B with
    | true =>
      refine ev_cond rfl (fun hb => ?_) (fun hb => by simp at hb)  -- 11
      refine ev_seq (ev_reg (by simp; rfl) ?_)  -- region 2
      refine ev_ret ?_
      simp
    | false =>
      refine ev_cond rfl (fun hb => by simp at hb) (fun hb => ?_)  -- 11
      refine ev_skip ?_
      refine ev_seq (ev_reg (by simp; rfl) ?_)  -- region 3
      refine ev_ret ?_
      simp
end Go.Proofs.Ytoafhoihigfllaa.E
namespace Go.Proofs.Ytoafhoihigfllaa.E
open Go Go.RowKit
set_option linter.unusedVariables false
/-- a walk of so many steps -/
def itr (f : Nat → Nat) : Nat → Nat → Nat
  | 0, x => x
  | j+1, x => f (itr f j x)
theorem itr_add (f : Nat → Nat) : ∀ a b x, itr f (a + b) x = itr f a (itr f b x)
  | 0, b, x => by rw [Nat.zero_add]; rfl
  | a+1, b, x => by
    have : a + 1 + b = (a + b) + 1 := by omega
    rw [this]; show f (itr f (a + b) x) = f (itr f a (itr f b x)); rw [itr_add f a b x]
theorem itr_succ (f : Nat → Nat) (a x : Nat) : itr f (a + 1) x = itr f a (f x) := itr_add f a 1 x
def orb (f : Nat → Nat) (p x : Nat) : List Nat := (List.range p).map fun j => itr f j x
@[simp] theorem orb_length (f : Nat → Nat) (p x : Nat) : (orb f p x).length = p := by simp [orb]
theorem orb_get (f : Nat → Nat) (p x i : Nat) (h : i < (orb f p x).length) : (orb f p x)[i] = itr f i x := by simp [orb]
theorem orb_succ (f : Nat → Nat) (p x : Nat) : orb f (p + 1) x = orb f p x ++ [itr f p x] := by simp [orb, List.range_succ]
theorem mem_orb {f : Nat → Nat} {p x y : Nat} : y ∈ orb f p x ↔ ∃ j, j < p ∧ itr f j x = y := by simp [orb]
structure Cyc (f : Nat → Nat) (p y : Nat) : Prop where
  pos : 0 < p
  back : itr f p y = y
  fresh : ∀ j, 0 < j → j < p → itr f j y ≠ y
theorem Cyc.step {f : Nat → Nat} {p y : Nat} (h : Cyc f p y) : Cyc f p (f y) := by
  have hp := h.pos
  refine ⟨h.pos, ?_, fun j hj hjp e => ?_⟩
  · rw [← itr_succ]; show f (itr f p y) = f y; rw [h.back]
  · have e2 : itr f (p - 1) (itr f j (f y)) = itr f (p - 1) (f y) := by rw [e]
    rw [← itr_add, ← itr_succ, ← itr_succ] at e2
    have e3 : p - 1 + 1 = p := by omega
    have e4 : p - 1 + j + 1 = j + p := by omega
    rw [e3, e4, itr_add, h.back] at e2
    exact h.fresh j hj hjp e2
theorem Cyc.shift {f : Nat → Nat} {p y : Nat} (h : Cyc f p y) : ∀ t, Cyc f p (itr f t y)
  | 0 => h
  | t+1 => (h.shift t).step
theorem Cyc.unique {f : Nat → Nat} {p q y : Nat} (h : Cyc f p y) (k : Cyc f q y) : p = q := by
  rcases Nat.lt_trichotomy p q with c | c | c
  · exact absurd h.back (k.fresh p h.pos c)
  · exact c
  · exact absurd k.back (h.fresh q k.pos c)
theorem Cyc.mem_step {f : Nat → Nat} {p y : Nat} (h : Cyc f p y) (z : Nat) : z ∈ orb f p (f y) ↔ z ∈ orb f p y := by
  have hp := h.pos
  rw [mem_orb, mem_orb]
  constructor
  · rintro ⟨j, hj, e⟩
    rw [← itr_succ] at e
    by_cases c : j + 1 < p
    · exact ⟨j + 1, c, e⟩
    · have : j + 1 = p := by omega
      rw [this, h.back] at e
      exact ⟨0, hp, e⟩
  · rintro ⟨j, hj, e⟩
    cases j with
    | zero =>
      refine ⟨p - 1, by omega, ?_⟩
      rw [← itr_succ, show p - 1 + 1 = p by omega, h.back]; exact e
    | succ j => exact ⟨j, by omega, by rw [← itr_succ]; exact e⟩
theorem Cyc.mem_shift {f : Nat → Nat} {p y : Nat} (h : Cyc f p y) (z : Nat) : ∀ t, z ∈ orb f p (itr f t y) ↔ z ∈ orb f p y
  | 0 => Iff.rfl
  | t+1 => ((h.shift t).mem_step z).trans (h.mem_shift z t)
def Least (m : Nat) (l : List Nat) : Prop := m ∈ l ∧ ∀ z ∈ l, m ≤ z
/-- the ring that a walk ends in, its least in front -/
def RingIs (f : Nat → Nat) (k : Nat) (r : List Nat) : Prop := ∃ p m t, Cyc f p (itr f t k) ∧ Least m (orb f p (itr f t k)) ∧ r = orb f p m
theorem RingIs.unique {f : Nat → Nat} {k : Nat} {r s : List Nat} (h : RingIs f k r) (g : RingIs f k s) : r = s := by
  obtain ⟨p, m, t, h1, ⟨h2, h3⟩, rfl⟩ := h
  obtain ⟨q, n, u, g1, ⟨g2, g3⟩, rfl⟩ := g
  have a1 := h1.shift u
  have b1 := g1.shift t
  rw [← itr_add] at a1 b1
  rw [Nat.add_comm] at b1
  have e := a1.unique b1
  subst e
  have key : ∀ z, z ∈ orb f p (itr f t k) ↔ z ∈ orb f p (itr f u k) := fun z => by
    rw [← h1.mem_shift z u, ← g1.mem_shift z t, ← itr_add, ← itr_add, Nat.add_comm]
  have e2 : m = n := Nat.le_antisymm (h3 n ((key n).mpr g2)) (g3 m ((key m).mp h2))
  rw [e2]
open Classical in
noncomputable def ringOf (f : Nat → Nat) (k : Nat) : List Nat := if h : ∃ r, RingIs f k r then Classical.choose h else []
theorem ringOf_eq {f : Nat → Nat} {k : Nat} {r : List Nat} (h : RingIs f k r) : ringOf f k = r := by
  have he : ∃ r, RingIs f k r := ⟨r, h⟩
  unfold ringOf
  rw [dif_pos he]
  exact (Classical.choose_spec he).unique h
theorem nodup_short : ∀ (n : Nat) (l : List Nat), l.Nodup → (∀ x ∈ l, x < n) → l.length ≤ n
  | 0, l, _, h => by
    cases l with
    | nil => simp
    | cons x r => exact absurd (h x List.mem_cons_self) (by omega)
  | n+1, l, hd, h => by
    by_cases c : n ∈ l
    · have h1 := nodup_short n (l.erase n) (hd.erase n) (fun x hx => by
        have := (hd.mem_erase_iff).mp hx
        have := h x this.2
        omega)
      rw [List.length_erase_of_mem c] at h1
      omega
    · have h1 := nodup_short n l hd (fun x hx => by
        have h2 := h x hx
        have : x ≠ n := fun e => c (e ▸ hx)
        omega)
      omega
theorem itr_lt {f : Nat → Nat} {n : Nat} (hf : ∀ x, x < n → f x < n) {k : Nat} (hk : k < n) : ∀ i, itr f i k < n
  | 0 => hk
  | i+1 => hf _ (itr_lt hf hk i)
theorem orb_nodup_succ {f : Nat → Nat} {i k : Nat} (h : (orb f i k).Nodup) (h1 : itr f i k ∉ orb f i k) : (orb f (i + 1) k).Nodup := by
  rw [orb_succ, List.nodup_append]
  exact ⟨h, by simp, fun a ha b hb => by simp at hb; subst hb; exact fun e => h1 (e ▸ ha)⟩
theorem orb_inj {f : Nat → Nat} {p x : Nat} (h : (orb f p x).Nodup) {i j : Nat} (hi : i < p) (hj : j < p) (e : itr f i x = itr f j x) : i = j := by
  have := (List.getElem_inj (h₀ := by simpa using hi) (h₁ := by simpa using hj) h).mp (by rw [orb_get, orb_get]; exact e)
  exact this
theorem orb_drop (f : Nat → Nat) (i a x : Nat) : (orb f i x).drop a = orb f (i - a) (itr f a x) := by
  apply List.ext_getElem
  · simp
  · intro j h1 h2
    rw [List.getElem_drop, orb_get, orb_get, ← itr_add, Nat.add_comm]
/-- a walk that comes back: the ring -/
theorem cyc_of_back {f : Nat → Nat} {i a k : Nat} (hd : (orb f i k).Nodup) (ha : a < i) (e : itr f a k = itr f i k) : Cyc f (i - a) (itr f a k) := by
  refine ⟨by omega, ?_, fun j hj hji e2 => ?_⟩
  · rw [← itr_add, show i - a + a = i by omega, e]
  · rw [← itr_add] at e2
    have := orb_inj hd (by omega) ha e2
    omega
theorem cyc_exists {f : Nat → Nat} {n : Nat} (hf : ∀ x, x < n → f x < n) {k : Nat} (hk : k < n) : ∃ a p, a + p ≤ n ∧ Cyc f p (itr f a k) := by
  have key : ∀ i, i ≤ n + 1 → (∃ a p, a + p ≤ n ∧ Cyc f p (itr f a k)) ∨ (orb f i k).Nodup := by
    intro i
    induction i with
    | zero => intro _; exact .inr (by simp [orb])
    | succ i ih =>
      intro hi
      rcases ih (by omega) with h | h
      · exact .inl h
      · by_cases c : itr f i k ∈ orb f i k
        · obtain ⟨a, ha, e⟩ := mem_orb.mp c
          exact .inl ⟨a, i - a, by omega, cyc_of_back h ha e⟩
        · exact .inr (orb_nodup_succ h c)
  rcases key (n + 1) (by omega) with h | h
  · exact h
  · have := nodup_short n _ h (fun x hx => by
      obtain ⟨j, _, e⟩ := mem_orb.mp hx
      exact e ▸ itr_lt hf hk j)
    simp at this
    omega
/-- the ring as the program turns it -/
theorem ring_turned {f : Nat → Nat} {p y m : Nat} (h : Cyc f p y) (hm : m ∈ orb f p y) : (orb f p y).drop ((orb f p y).idxOf m) ++ (orb f p y).take ((orb f p y).idxOf m) = orb f p m := by
  have hs : (orb f p y).idxOf m < p := by
    have := List.idxOf_lt_length_of_mem hm
    simpa using this
  have hg : (orb f p y)[(orb f p y).idxOf m]'(by simpa using hs) = m := List.getElem_idxOf (by simpa using hs)
  rw [orb_get] at hg
  generalize (orb f p y).idxOf m = s at hs hg
  apply List.ext_getElem
  · simp; omega
  · intro j h1 h2
    simp at h1 h2
    rw [orb_get, List.getElem_append]
    split
    · rename_i c
      simp at c
      rw [List.getElem_drop, orb_get, Nat.add_comm, itr_add, hg]
    · rename_i c
      simp at c
      rw [List.getElem_take, orb_get, ← hg, ← itr_add]
      simp only [List.length_drop, orb_length]
      have e : j + s = (j - (p - s)) + p := by omega
      rw [e, itr_add, h.back]
/-- the ring as the document finds it -/
theorem ring_doc {f : Nat → Nat} {p k t m : Nat} (h : Cyc f p (itr f t k)) (hm : Least m (orb f p (itr f t k))) : RingIs f k (orb f p m) := ⟨p, m, t, h, hm, rfl⟩
theorem cyc_mem {f : Nat → Nat} {p y m : Nat} (h : Cyc f p y) (hm : m ∈ orb f p y) : Cyc f p m := by
  obtain ⟨j, _, rfl⟩ := mem_orb.mp hm
  exact h.shift j
def rowAt (w : List (Bool × List Int)) (k : Nat) : List Int := (w.getD k (false, [])).2
/-- to whom a nation points -/
def pt (w : List (Bool × List Int)) (d : List Bool) (k : Nat) : Nat := (((rowAt w k).find? fun x => !(d.getD x.toNat false)).getD k).toNat
structure Wish (w : List (Bool × List Int)) : Prop where
  few : 1 ≤ w.length ∧ w.length ≤ 8
  ord : ∀ k, k < w.length → IsOrd (rowAt w k) w.length
theorem Wish.mem {l : List Int} {n x : Nat} (h : IsOrd l n) (hx : x < n) : (x : Int) ∈ l := by
  have h1 : (l.map Int.toNat).Nodup := by
    rw [List.nodup_iff_pairwise_ne, List.pairwise_map]
    have := h.nd
    rw [List.nodup_iff_pairwise_ne] at this
    refine List.Pairwise.imp_of_mem ?_ this
    intro a b ha hb hne e
    have := h.rng a ha
    have := h.rng b hb
    omega
  have h2 : ∀ y ∈ l.map Int.toNat, y < n := fun y hy => by
    obtain ⟨a, ha, rfl⟩ := List.mem_map.mp hy
    have := h.rng a ha
    omega
  apply Classical.byContradiction
  intro hc
  have hn : x ∉ l.map Int.toNat := fun hm => by
    obtain ⟨a, ha, e⟩ := List.mem_map.mp hm
    have := h.rng a ha
    exact hc (by rw [← e, Int.toNat_of_nonneg this.1]; exact ha)
  have h3 := nodup_short n (x :: l.map Int.toNat) (List.nodup_cons.mpr ⟨hn, h1⟩) (fun y hy => by
    rcases List.mem_cons.mp hy with rfl | hy
    · exact hx
    · exact h2 y hy)
  simp [h.len] at h3
  omega
theorem pt_spec {w : List (Bool × List Int)} (hw : Wish w) {d : List Bool} {k : Nat} (hk : k < w.length) {a : Nat} (ha : a < w.length) (hd : d.getD a false = false) :
    ∃ x ∈ rowAt w k, (rowAt w k).find? (fun x => !(d.getD x.toNat false)) = some x ∧ 0 ≤ x ∧ x < w.length ∧ x = pt w d k ∧ d.getD (pt w d k) false = false := by
  have ho := hw.ord k hk
  have hm := Wish.mem ho ha
  cases hf : (rowAt w k).find? (fun x => !(d.getD x.toNat false)) with
  | none =>
    have := List.find?_eq_none.mp hf _ hm
    rw [Int.toNat_natCast, hd] at this
    simp at this
  | some x =>
    have h1 := List.mem_of_find?_eq_some hf
    have h2 := List.find?_some hf
    have h3 := ho.rng x h1
    refine ⟨x, h1, rfl, h3.1, h3.2, ?_, ?_⟩
    · simp only [pt, hf, Option.getD_some]; omega
    · simp only [pt, hf, Option.getD_some]; simpa using h2
theorem pt_lt {w : List (Bool × List Int)} (hw : Wish w) (d : List Bool) {k : Nat} (hk : k < w.length) : pt w d k < w.length := by
  cases hf : (rowAt w k).find? (fun x => !(d.getD x.toNat false)) with
  | none => simp only [pt, hf, Option.getD_none]; simpa using hk
  | some x =>
    have := (hw.ord k hk).rng x (List.mem_of_find?_eq_some hf)
    simp only [pt, hf, Option.getD_some]; omega
theorem pt_free {w : List (Bool × List Int)} (hw : Wish w) {d : List Bool} {k : Nat} (hk : k < w.length) (hd : d.getD k false = false) : ∀ i, d.getD (itr (pt w d) i k) false = false
  | 0 => hd
  | i+1 => by
    obtain ⟨_, _, _, _, _, _, h⟩ := pt_spec hw (itr_lt (fun x hx => pt_lt hw d hx) hk i) hk hd
    exact h
def mark (d : List Bool) (r : List Nat) : List Bool := r.foldl (fun d x => d.set x true) d
@[simp] theorem mark_nil (d : List Bool) : mark d [] = d := rfl
theorem mark_cons (d : List Bool) (x : Nat) (r : List Nat) : mark d (x :: r) = mark (d.set x true) r := rfl
theorem mark_append (d : List Bool) (r s : List Nat) : mark d (r ++ s) = mark (mark d r) s := by simp [mark]
@[simp] theorem mark_length (r : List Nat) : ∀ d : List Bool, (mark d r).length = d.length := by
  induction r with
  | nil => intro d; rfl
  | cons x r ih => intro d; rw [mark_cons, ih]; simp
/-- how many are in no ring yet -/
def unmet (d : List Bool) : Nat := d.count false
theorem unmet_set_le (d : List Bool) (x : Nat) : unmet (d.set x true) ≤ unmet d := by
  unfold unmet
  by_cases h : x < d.length
  · rw [List.count_set h]; simp
  · rw [List.set_eq_of_length_le (by omega)]; exact Nat.le_refl _
theorem unmet_set_lt {d : List Bool} {x : Nat} (h : x < d.length) (hd : d.getD x false = false) : unmet (d.set x true) < unmet d := by
  unfold unmet
  have e : d[x] = false := by simpa [List.getD_eq_getElem?_getD, List.getElem?_eq_getElem h] using hd
  have : 0 < d.count false := List.count_pos_iff.mpr (e ▸ List.getElem_mem h)
  rw [List.count_set h, e]; simp; omega
theorem unmet_mark_le (r : List Nat) : ∀ d : List Bool, unmet (mark d r) ≤ unmet d := by
  induction r with
  | nil => intro d; exact Nat.le_refl _
  | cons x r ih => intro d; rw [mark_cons]; exact Nat.le_trans (ih _) (unmet_set_le d x)
theorem unmet_le (d : List Bool) : unmet d ≤ d.length := List.count_le_length
/-- all rings, one after the other -/
noncomputable def runR (w : List (Bool × List Int)) : Nat → Nat → List Bool → List (List Nat) → List (List Nat)
  | 0, _, _, out => out
  | fuel+1, k, d, out =>
    if w.length ≤ k then out
    else if d.getD k false = true then runR w fuel (k + 1) d out
    else runR w fuel k (mark d (ringOf (pt w d) k)) (out ++ [ringOf (pt w d) k])
noncomputable def ringsOf (w : List (Bool × List Int)) : List (List Nat) := runR w 17 0 (List.replicate w.length false) []
/-- so far: what is still to come leads to all rings -/
structure Rd (w : List (Bool × List Int)) (fuel k : Nat) (d : List Bool) (out : List (List Nat)) : Prop where
  run : runR w fuel k d out = ringsOf w
  len : d.length = w.length
  le : k ≤ w.length
  fuel : (w.length - k) + unmet d < fuel
  small : ∀ r ∈ out, 0 < r.length ∧ r.length ≤ 8 ∧ ∀ x ∈ r, x < w.length
  some : out.length + unmet d ≤ w.length
theorem rd_first {w : List (Bool × List Int)} (hw : Wish w) : Rd w 17 0 (List.replicate w.length false) [] := by
  have := hw.few
  refine ⟨rfl, by simp, by omega, ?_, by simp, ?_⟩
  · have := unmet_le (List.replicate w.length false); simp at this; omega
  · simpa using unmet_le (List.replicate w.length false)
theorem Rd.end {w : List (Bool × List Int)} {fuel k : Nat} {d : List Bool} {out : List (List Nat)} (h : Rd w fuel k d out) (hk : w.length ≤ k) : out = ringsOf w := by
  have h1 := h.run
  have h2 := h.fuel
  match fuel with
  | 0 => omega
  | fuel+1 => rw [runR, if_pos hk] at h1; exact h1
theorem Rd.next {w : List (Bool × List Int)} {fuel k : Nat} {d : List Bool} {out : List (List Nat)} (h : Rd w fuel k d out) (hk : k < w.length) (hd : d.getD k false = true) : Rd w (fuel - 1) (k + 1) d out := by
  have h1 := h.run
  have h2 := h.fuel
  match fuel with
  | 0 => omega
  | fuel+1 =>
    rw [runR, if_neg (by omega), if_pos hd] at h1
    exact ⟨h1, h.len, hk, by simp only [Nat.add_sub_cancel]; omega, h.small, h.some⟩
theorem ring_in {w : List (Bool × List Int)} (hw : Wish w) {d : List Bool} {k : Nat} (hk : k < w.length) (hd : d.getD k false = false) {r : List Nat} (hr : RingIs (pt w d) k r) : 0 < r.length ∧ r.length ≤ 8 ∧ (∀ x ∈ r, x < w.length ∧ d.getD x false = false) ∧ r.Nodup := by
  have hf := fun x (hx : x < w.length) => pt_lt hw d hx
  obtain ⟨p, m, t, hc, ⟨hm, _⟩, rfl⟩ := hr
  obtain ⟨j, hj, rfl⟩ := mem_orb.mp hm
  have hc2 := hc.shift j
  rw [← itr_add] at hc2 ⊢
  have hin : ∀ x ∈ orb (pt w d) p (itr (pt w d) (j + t) k), x < w.length ∧ d.getD x false = false := fun x hx => by
    obtain ⟨i, _, rfl⟩ := mem_orb.mp hx
    rw [← itr_add]
    exact ⟨itr_lt hf hk _, pt_free hw hk hd _⟩
  have hnd : (orb (pt w d) p (itr (pt w d) (j + t) k)).Nodup := by
    rw [List.nodup_iff_pairwise_ne, List.pairwise_iff_getElem]
    intro a b ha hb hab e
    rw [orb_get, orb_get] at e
    simp at ha hb
    have h1 := hc2.shift a
    refine h1.fresh (b - a) (by omega) (by omega) ?_
    rw [← itr_add, show b - a + a = b by omega, e]
  have h3 := nodup_short w.length _ hnd (fun x hx => (hin x hx).1)
  have h4 := hc.pos
  have h5 := hw.few
  simp at h3
  exact ⟨by simp; omega, by simp; omega, hin, hnd⟩
theorem Rd.ring {w : List (Bool × List Int)} (hw : Wish w) {fuel k : Nat} {d : List Bool} {out : List (List Nat)} (h : Rd w fuel k d out) (hk : k < w.length) (hd : d.getD k false = false) {r : List Nat} (hr : RingIs (pt w d) k r) :
    Rd w (fuel - 1) k (mark d r) (out ++ [r]) ∧ unmet (mark d r) < unmet d := by
  have h1 := h.run
  have h2 := h.fuel
  obtain ⟨r1, r2, r3, _⟩ := ring_in hw hk hd hr
  have hlt : unmet (mark d r) < unmet d := by
    match r, r1 with
    | x :: r, _ =>
      rw [mark_cons]
      have := r3 x List.mem_cons_self
      exact Nat.lt_of_le_of_lt (unmet_mark_le _ _) (unmet_set_lt (by rw [h.len]; exact this.1) this.2)
  have hs := h.some
  refine ⟨?_, hlt⟩
  match fuel with
  | 0 => omega
  | fuel+1 =>
    rw [runR, if_neg (by omega), if_neg (by rw [hd]; simp), ringOf_eq hr] at h1
    refine ⟨h1, by simp [h.len], h.le, by simp only [Nat.add_sub_cancel]; omega, ?_, by simp; omega⟩
    intro s hs
    rcases List.mem_append.mp hs with hs | hs
    · exact h.small s hs
    · simp at hs; subst hs
      exact ⟨r1, r2, fun x hx => (r3 x hx).1⟩
end Go.Proofs.Ytoafhoihigfllaa.E
namespace Go.Proofs.Ytoafhoihigfllaa.E
open Go Go.RowKit
set_option linter.unusedVariables false
set_option linter.unusedSimpArgs false
def bools (d : List Bool) : List FV := d.map FV.bool
@[simp] theorem bools_length (d : List Bool) : (bools d).length = d.length := by simp [bools]
@[simp] theorem bools_get (d : List Bool) (i : Nat) (h : i < (bools d).length) : (bools d)[i] = .bool (d[i]'(by simpa using h)) := by simp [bools]
@[simp] theorem bools_get? (d : List Bool) (i : Nat) : (bools d)[i]? = d[i]?.map FV.bool := by simp [bools]
theorem rowAt_get {w : List (Bool × List Int)} {k : Nat} (hk : k < w.length) : rowAt w k = w[k].2 := by simp [rowAt, List.getD_eq_getElem?_getD, List.getElem?_eq_getElem hk]
theorem getD_get {d : List Bool} {i : Nat} (h : i < d.length) : d.getD i false = d[i] := by simp [List.getD_eq_getElem?_getD, List.getElem?_eq_getElem h]
theorem v58 (ctx : Ctx) (hC : CtxOk (pg ctx)) (w : List (Bool × List Int)) (hw : Wish w) (d : List Bool) (hd : d.length = w.length) (k : Nat) (hk : k < w.length) (r1 r2 r3 c c2 : Bool) :
    Valid Try.prog 58 [(r1, .sl c 1 (rowsF w)), (r2, .sl c2 1 (bools d)), (r3, .int .i64 k)] [.fv (.int .i64 (pt w d k))] := by
  refine valid_of_ev (G := pg ctx) (tok ctx) hC mixed Try.func58 T58 L58 (by simp [Try.ntmps58]) ⟨_, rfl, ?_⟩
  simp only [Try.ntmps58, Try.results58, initSt, initEnv]
  have hrow := rowAt_get hk
  have hord := hw.ord k hk
  rw [hrow] at hord
  have hlen := hord.len
  have h8 := hw.few
  refine ev_seq (ev_reg (by simp; rfl) ?_)  -- region 0
  refine ev_seq (ev_seq (ev_reg (by simp; rfl) ?_))  -- region 1
  refine ev_block ?_  -- 0
  refine ev_loop (fun i : Nat => ({ env := [(0, V.fv r1 (FV.sl c 1 (rowsF w))), (1, V.fv r2 (FV.sl c2 1 (bools d))), (2, V.fv r3 (.int .i64 k)), (7, V.fv false (FV.int .i64 i))], blk := [] } : St)) (fun i => w.length - i) (fun i => i ≤ w.length ∧ ∀ j, (h : j < w[k].2.length) → j < i → d.getD (w[k].2[j]).toNat false = true) 0 rfl (by simp) (by simp [R]; omega) (fun i hi => ?_)
  obtain ⟨hi, hn⟩ := hi
  refine ev_seq (ev_seq (ev_reg (by simp [hk, rowF, hlen]; rfl) ?_))  -- region 2
  refine ev_cond rfl (fun hb => ?_) (fun hb => ?_)  -- 15
  · simp at hb
    have hb2 : i < w[k].2.length := by omega
    have hr := hord.rng w[k].2[i] (List.getElem_mem _)
    obtain ⟨x, hx⟩ : ∃ x : Nat, w[k].2[i] = (x : Int) := ⟨w[k].2[i].toNat, by omega⟩
    have hx1 : x < d.length := by omega
    have hw1 : IntKind.i64.wrap ((i : Int) + 1) = (i + 1 : Nat) := wrap_nat (n := i + 1) (by omega)
    refine ev_skip ?_
    refine ev_seq (ev_block ?_)  -- 1
    refine ev_seq (ev_reg (by simp [hk, rowF, hb2, hx]; rfl) ?_)  -- region 4
    obtain ⟨B, hB⟩ : ∃ B, B = d[x] := ⟨_, rfl⟩
    refine ev_seq (ev_reg (by simp [hx1, ← hB]; rfl) ?_)  -- region 5
    refine ev_cond rfl (fun hb3 => ?_) (fun hb3 => ?_)  -- 29
    · simp at hb3
      refine ev_seq (ev_reg (by simp; rfl) ?_)  -- region 6
      refine ev_ret ?_
      have hf : (rowAt w k).find? (fun x => !(d.getD x.toNat false)) = some (x : Int) := by
        rw [hrow, List.find?_eq_some_iff_getElem]
        refine ⟨by rw [Int.toNat_natCast, getD_get hx1, ← hB, hb3]; rfl, i, hb2, hx, fun j hj => by rw [hn j (by omega) hj]; rfl⟩
      have hp : pt w d k = x := by simp only [pt, hf, Option.getD_some]; omega
      simp [hp]
    · simp at hb3
      refine ev_skip ?_
      refine ev_reg (by simp [hw1]; rfl) ?_  -- region 3
      refine ⟨i + 1, rfl, ⟨by omega, fun j h hj => ?_⟩, by omega⟩
      by_cases e : j = i
      · subst e; rw [hx, Int.toNat_natCast, getD_get hx1, ← hB, hb3]
      · exact hn j h (by omega)
  · simp at hb
    refine ev_exit ?_  -- 0
    refine ev_seq (ev_reg (by simp; rfl) ?_)  -- region 7
    refine ev_ret ?_
    have hf : (rowAt w k).find? (fun x => !(d.getD x.toNat false)) = none := by
      rw [hrow, List.find?_eq_none]
      intro y hy
      obtain ⟨j, hj, rfl⟩ := List.getElem_of_mem hy
      rw [hn j hj (by omega)]; simp
    have hp : pt w d k = k := by simp only [pt, hf, Option.getD_none, Int.toNat_natCast]
    simp [hp]
def cellsW (c : Bool) (w : List (Bool × List Int)) (D : List Bool) : List FV := .sl c 1 (rowsF w) :: bools D
@[simp] theorem cellsW_length (c : Bool) (w : List (Bool × List Int)) (D : List Bool) : (cellsW c w D).length = D.length + 1 := by simp [cellsW]
theorem cellsW_0 (c : Bool) (w : List (Bool × List Int)) (D : List Bool) (ro : Bool) : List.take 1 (List.map (nrm ro) (cellsW c w D)) = [.fv ro (.sl c 1 (rowsF w))] := by simp [cellsW, nrm, flat]
theorem cellsW_1 (c : Bool) (w : List (Bool × List Int)) (D : List Bool) (ro : Bool) (x : Nat) (hx : x < D.length) : List.take 1 (List.drop (1 + x) (List.map (nrm ro) (cellsW c w D))) = [.fv false (.bool D[x])] := by
  rw [cellsW, Nat.add_comm, List.map_cons, List.drop_succ_cons, List.drop_eq_getElem_cons (by simpa using hx)]
  simp [nrm, flat, flat1]
theorem v86 (ctx : Ctx) (hC : CtxOk (pg ctx)) (w : List (Bool × List Int)) (D : List Bool) (hD : D.length = 8) (x : Nat) (hx : x < 8) (r1 r2 c : Bool) :
    Valid Try.prog 86 [(r1, .int .i64 x), (r2, .pt [.pt (cellsW c w D) 0] 0)] [.fv (.bool (!(D.getD x false)))] := by
  refine valid_of_ev (G := pg ctx) (tok ctx) hC mixed Try.func86 T86 L86 (by simp [Try.ntmps86]) ⟨_, rfl, ?_⟩
  simp only [Try.ntmps86, Try.results86, initSt, initEnv]
  have hx1 : x < D.length := by omega
  have hx2 : (x : Int) < 8 := by omega
  have hc := fun ro => cellsW_1 c w D ro x hx1
  refine ev_seq (ev_reg (by simp; rfl) ?_)  -- region 0
  refine ev_seq (ev_reg (by simp [hx2, hc, hD, show 1 + x ≤ 8 by omega]; rfl) ?_)  -- region 1
  refine ev_ret ?_
  simp [List.getD_eq_getElem?_getD, List.getElem?_eq_getElem hx1]
end Go.Proofs.Ytoafhoihigfllaa.E
namespace Go.Proofs.Ytoafhoihigfllaa.E
open Go Go.RowKit
set_option linter.unusedVariables false
set_option linter.unusedSimpArgs false
theorem find_idx {p : Int → Bool} {l : List Int} {x : Int} (h : l.find? p = some x) : ∃ i, ∃ h : i < l.length, idx p l = (i : Int) ∧ l[i] = x := by
  rw [List.find?_eq_some_iff_getElem] at h
  obtain ⟨hx, i, hi, he, hn⟩ := h
  refine ⟨i, hi, ?_, he⟩
  have : l.findIdx? p = some i := by
    rw [List.findIdx?_eq_some_iff_getElem]
    exact ⟨hi, by rw [he]; exact hx, fun j hj => by have := hn j hj; simpa using this⟩
  simp [idx, this]
def freeIn (D : List Bool) (x : Int) : Bool := !(D.getD x.toNat false)
def H75w (ctx : Ctx) (w : List (Bool × List Int)) (c : Bool) (D : List Bool) : Prop := ∀ (l : List Int) (ro rf c2 : Bool), l.length ≤ 8 → (∀ x ∈ l, 0 ≤ x ∧ x < 8) → ctx 75 [(ro, .sl c2 1 (ints l)), (rf, .fn (.func 86) [] [.pt [.pt (cellsW c w D) 0] 0])] = some [.fv (.int .i64 (idx (freeIn D) l))]
theorem v76 (ctx : Ctx) (hC : CtxOk (pg ctx)) (w : List (Bool × List Int)) (hw : Wish w) (D : List Bool) (hD : D.length = 8) (k : Nat) (hk : k < w.length) (a : Nat) (ha : a < w.length) (hda : D.getD a false = false) (r1 r2 c : Bool) (h75 : H75w ctx w c D) :
    Valid Try.prog 76 [(r1, .pt (cellsW c w D) 0), (r2, .int .i64 k)] [.fv (.int .i64 (pt w D k))] := by
  refine valid_of_ev (G := pg ctx) (tok ctx) hC mixed Try.func76 T76 L76 (by simp [Try.ntmps76]) ⟨_, rfl, ?_⟩
  simp only [Try.ntmps76, Try.results76, initSt, initEnv]
  have hrow := rowAt_get hk
  have hord := hw.ord k hk
  rw [hrow] at hord
  have hlen := hord.len
  have h8 := hw.few
  obtain ⟨x, hx, hf, hx0, hx1, hxp, _⟩ := pt_spec hw hk ha hda
  rw [hrow] at hf
  obtain ⟨i, hi, hidx, hix⟩ := find_idx hf
  have e75 := fun ro rf c2 => h75 w[k].2 ro rf c2 (by omega) (fun x hx => by have := hord.rng x hx; omega)
  have hidx2 : idx (freeIn D) w[k].2 = (i : Int) := hidx
  simp only [hidx2] at e75
  have hc0 := cellsW_0 c w D
  have hi2 : i < w.length := by omega
  refine ev_seq (ev_reg (by simp [boxA, vcells]; rfl) ?_)  -- region 0
  refine ev_seq (ev_reg (by simp [hc0, hk, rowF, e75]; rfl) ?_)  -- region 1
  refine ev_seq (ev_reg (by simp [hc0, hk, rowF, hi, hix]; rfl) ?_)  -- region 2
  refine ev_ret ?_
  simp [hxp]
def H76 (ctx : Ctx) (w : List (Bool × List Int)) (c : Bool) (D : List Bool) : Prop := ∀ (k : Nat), k < w.length → ∀ (r1 r2 : Bool), ctx 76 [(r1, .pt (cellsW c w D) 0), (r2, .int .i64 k)] = some [.fv (.int .i64 (pt w D k))]
theorem v78 (ctx : Ctx) (hC : CtxOk (pg ctx)) (l : List Int) (n : Int) (hl : l.length < 2^62) (ro r2 c : Bool) : Valid Try.prog 78 [(ro, .sl c 1 (ints l)), (r2, .int .i64 n)] [.fv (.int .i64 (idx (· == n) l))] := by
  refine valid_of_ev (G := pg ctx) (tok ctx) hC mixed Try.func78 T78 L78 (by simp [Try.ntmps78]) ⟨_, rfl, ?_⟩
  simp only [Try.ntmps78, Try.results78, initSt, initEnv]
  refine ev_seq (ev_reg (by simp; rfl) ?_)  -- region 0
  refine ev_seq (ev_seq (ev_reg (by simp; rfl) ?_))  -- region 1
  refine ev_block ?_  -- 0
  refine ev_loop (fun i : Nat => ({ env := [(0, V.fv ro (FV.sl c 1 (ints l))), (1, V.fv r2 (.int .i64 n)), (7, V.fv false (FV.int .i64 l.length)), (8, V.fv false (FV.int .i64 i))], blk := [] } : St)) (fun i => l.length - i) (fun i => i ≤ l.length ∧ ∀ x ∈ l.take i, (x == n) = false) 0 rfl (by simp) (by simp [R]; omega) (fun i hi => ?_)
  obtain ⟨hi, hn⟩ := hi
  refine ev_seq (ev_reg (by simp; rfl) ?_)  -- region 2
  refine ev_seq (ev_cond rfl (fun hb => ?_) (fun hb => ?_))  -- 9
  · simp at hb
    refine ev_skip ?_
    refine ev_seq (ev_block ?_)  -- 1
    refine ev_seq (ev_reg (by simp; rfl) ?_)  -- region 3
    refine ev_seq (ev_reg (by simp [hb]; rfl) ?_)  -- region 4
    refine ev_cond rfl (fun hb2 => ?_) (fun hb2 => ?_)  -- 16
    · have hb3 : (l[i] == n) = true := by rw [BEq.comm]; exact hb2
      refine ev_seq (ev_reg (by simp; rfl) ?_)  -- region 5
      refine ev_ret ?_
      have := idx_some (p := (· == n)) hb hn hb3
      simp [idx, this]
    · have hb3 : (l[i] == n) = false := by rw [BEq.comm]; exact hb2
      refine ev_skip ?_
      refine ev_reg (by simp; rfl) ?_  -- region 6
      refine ⟨i + 1, ?_, ⟨by omega, take_all (p := (· == n)) hb hn hb3⟩, by omega⟩
      simp
      exact wrap_nat (n := i + 1) (by omega)
  · simp at hb
    refine ev_exit ?_  -- 0
    refine ev_seq (ev_reg (by simp; rfl) ?_)  -- region 7
    refine ev_ret ?_
    have hnone : l.findIdx? (· == n) = none := by
      rw [List.findIdx?_eq_none_iff]
      rw [List.take_of_length_le hb] at hn
      exact hn
    simp [idx, hnone]
def minL (l : List Int) : Int := l.tail.foldl minI (l.headD 0)
theorem v79 (ctx : Ctx) (hC : CtxOk (pg ctx)) (l : List Int) (h0 : 0 < l.length) (hl : l.length < 2^62) (ro c : Bool) : Valid Try.prog 79 [(ro, .sl c 1 (ints l))] [.fv (.int .i64 (minL l))] := by
  refine valid_of_ev (G := pg ctx) (tok ctx) hC mixed Try.func79 T79 L79 (by simp [Try.ntmps79]) ⟨_, rfl, ?_⟩
  simp only [Try.ntmps79, Try.results79, initSt, initEnv]
  have h1 : ¬ ((l.length : Int) < 1) := by omega
  have h2 : ¬ (l.length = 0) := by omega
  have hd : (l.headD 0) = l[0] := by cases l with | nil => simp at h0 | cons => rfl
  refine ev_seq (ev_reg (by simp; rfl) ?_)  -- region 0
  refine ev_seq (ev_seq (ev_reg (by simp; rfl) ?_))  -- region 1
  refine ev_cond rfl (fun hb => by simp at hb; omega) (fun hb => ?_)  -- 7
  refine ev_skip ?_
  refine ev_seq (ev_reg (by simp [h0]; rfl) ?_)  -- region 3
  refine ev_seq (ev_seq (ev_reg (by simp; rfl) ?_))  -- region 4
  refine ev_block ?_  -- 0
  refine ev_loop (fun x : Nat × Int => ({ env := [(0, V.fv ro (FV.sl c 1 (ints l))), (3, V.fv false (.int .i64 x.2)), (4, V.fv false (FV.int .i64 x.1))], blk := [] } : St)) (fun x => l.length - x.1) (fun x => 1 ≤ x.1 ∧ x.1 ≤ l.length ∧ x.2 = minL (l.take x.1)) (1, l[0]) rfl ⟨by simp, by simp; omega, by cases l with | nil => simp at h0 | cons => simp [minL]⟩ (by simp [R]; omega) (fun x hi => ?_)
  obtain ⟨i, m⟩ := x
  obtain ⟨h3, hi, hm⟩ := hi
  simp only at h3 hi hm
  refine ev_seq (ev_seq (ev_reg (by simp; rfl) ?_))  -- region 5
  refine ev_cond rfl (fun hb => ?_) (fun hb => ?_)  -- 15
  · simp at hb
    have hw1 : IntKind.i64.wrap ((i : Int) + 1) = (i + 1 : Nat) := wrap_nat (n := i + 1) (by omega)
    refine ev_skip ?_
    refine ev_seq (ev_block ?_)  -- 1
    refine ev_reg (by simp [hb]; rfl) ?_  -- region 7
    refine ev_reg (by simp [hw1]; rfl) ?_  -- region 6
    refine ⟨(i + 1, minI m l[i]), by simp [minI], ⟨by simp only; omega, by simp only; omega, ?_⟩, by simp only; omega⟩
    simp only
    rw [hm, List.take_add_one, List.getElem?_eq_getElem hb]
    cases l with
    | nil => simp at h0
    | cons y r =>
      obtain ⟨j, rfl⟩ : ∃ j, i = j + 1 := ⟨i - 1, by omega⟩
      have hj : j < r.length := by simpa using hb
      simp only [minL, List.take_succ_cons, List.cons_append, List.tail_cons, List.headD_cons, List.foldl_append, Option.toList_some, List.foldl_cons, List.foldl_nil, List.getElem_cons_succ]
  · simp at hb
    refine ev_exit ?_  -- 0
    refine ev_seq (ev_reg (by simp; rfl) ?_)  -- region 8
    refine ev_ret ?_
    rw [List.take_of_length_le hb] at hm
    simp [hm]
end Go.Proofs.Ytoafhoihigfllaa.E
namespace Go.Proofs.Ytoafhoihigfllaa.E
open Go Go.RowKit
set_option linter.unusedVariables false
set_option linter.unusedSimpArgs false
def nn (r : List Nat) : List Int := r.map fun x : Nat => (x : Int)
@[simp] theorem nn_length (r : List Nat) : (nn r).length = r.length := by simp [nn]
@[simp] theorem nn_get (r : List Nat) (i : Nat) (h : i < (nn r).length) : (nn r)[i] = ((r[i]'(by simpa using h) : Nat) : Int) := by simp [nn]
theorem nn_append (r s : List Nat) : nn (r ++ s) = nn r ++ nn s := by simp [nn]
theorem nn_drop (r : List Nat) (k : Nat) : (nn r).drop k = nn (r.drop k) := by simp [nn, List.map_drop]
theorem nn_take (r : List Nat) (k : Nat) : (nn r).take k = nn (r.take k) := by simp [nn, List.map_take]
theorem nn_take_all (r : List Nat) (n : Nat) (h : r.length ≤ n) : (nn r).take n = nn r := List.take_of_length_le (by simpa using h)
theorem idx_nn (r : List Nat) (x : Nat) : idx (· == (x : Int)) (nn r) = if x ∈ r then ((r.idxOf x : Nat) : Int) else -1 := by
  unfold idx nn
  rw [List.findIdx?_map]
  have e : ((fun y : Int => y == (x : Int)) ∘ fun x : Nat => (x : Int)) = fun y : Nat => y == x := by
    funext y
    rw [Bool.eq_iff_iff]
    simp only [Function.comp, beq_iff_eq]
    omega
  rw [e]
  split
  · rename_i i h
    rw [List.findIdx?_eq_some_iff_getElem] at h
    obtain ⟨h1, h2, h3⟩ := h
    have hm : x ∈ r := by simp at h2; exact h2 ▸ List.getElem_mem h1
    rw [if_pos hm]
    have : r.idxOf x = i := by
      unfold List.idxOf
      rw [List.findIdx_eq h1]
      exact ⟨h2, fun j hj => by simpa using h3 j hj⟩
    rw [this]
  · rename_i h
    rw [List.findIdx?_eq_none_iff] at h
    rw [if_neg fun hm => by have := h x hm; simp at this]
/-- the walk, from a way on -/
def rnd (f : Nat → Nat) : Nat → List Nat → Nat → List Nat
  | 0, _, _ => []
  | m+1, way, x => if x ∈ way then way.drop (way.idxOf x) else rnd f m (way ++ [x]) (f x)
def Ends (f : Nat → Nat) : Nat → List Nat → Nat → Prop
  | 0, _, _ => False
  | m+1, way, x => x ∈ way ∨ Ends f m (way ++ [x]) (f x)
def ptP (c : Bool) (w : List (Bool × List Int)) (D : List Bool) : FV := .pt [.fn (.func 76) [.pt (cellsW c w D) 0] []] 0
/-- the program, with the walk's own lists handed on fixed -/
noncomputable def pgf (ctx : Ctx) : Pg := { pg ctx with fz := fun k => k == 77 }
@[simp] theorem pgf_tbl (ctx : Ctx) : (pgf ctx).tbl = tbl := rfl
@[simp] theorem pgf_ctx (ctx : Ctx) : (pgf ctx).ctx = ctx := rfl
@[simp] theorem pgf_keys (ctx : Ctx) : (pgf ctx).keys = [98] := rfl
@[simp] theorem pgf_inl (ctx : Ctx) (k d : Nat) (σ : St) (a : List V) : (pgf ctx).inl k d σ a = none := rfl
@[simp] theorem pgf_fz (ctx : Ctx) (k : Nat) : (pgf ctx).fz k = (k == 77) := rfl
@[simp] theorem pgf_yl (ctx : Ctx) : (pgf ctx).yl = none := rfl
@[simp] theorem pgf_eqs (ctx : Ctx) : (pgf ctx).eqs = [(80, (8, true)), (98, (2, false))] := rfl
theorem tokf (ctx : Ctx) : TOk (pgf ctx) := ⟨(tok ctx).tt, (tok ctx).ee, (tok ctx).kk, (tok ctx).zv⟩
def H78 (ctx : Ctx) : Prop := ∀ (l : List Int) (n : Int), l.length < 2^62 → ∀ (ro r2 c : Bool), ctx 78 [(ro, .sl c 1 (ints l)), (r2, .int .i64 n)] = some [.fv (.int .i64 (idx (· == n) l))]
def H77 (ctx : Ctx) (w : List (Bool × List Int)) (c : Bool) (D : List Bool) (m : Nat) : Prop := ∀ (way : List Nat) (x : Nat), x < w.length → D.getD x false = false → way.length + m ≤ 9 → Ends (pt w D) m way x → ∀ (r2 r3 r4 : Bool), ctx 77 [(false, .sl false 1 (ints (nn way))), (r2, .int .i64 x), (r3, .rb 77 [] [ptP c w D]), (r4, ptP c w D)] = some [.fv (.sl false 1 (ints (nn (rnd (pt w D) m way x))))]
theorem v77 (ctx : Ctx) (hC : CtxOk (pgf ctx)) (w : List (Bool × List Int)) (hw : Wish w) (c : Bool) (D : List Bool) (hD : D.length = 8) (m : Nat) (h76 : H76 ctx w c D) (h77 : H77 ctx w c D m) (h78 : H78 ctx)
    (way : List Nat) (x : Nat) (hx : x < w.length) (hd : D.getD x false = false) (hl : way.length + (m + 1) ≤ 9) (he : Ends (pt w D) (m + 1) way x) (cc : Bool) (hcc : cc = false ∨ way = []) (r2 r3 r4 : Bool) :
    Valid Try.prog 77 [(false, .sl cc 1 (ints (nn way))), (r2, .int .i64 x), (r3, .rb 77 [] [ptP c w D]), (r4, ptP c w D)] [.fv (.sl false 1 (ints (nn (rnd (pt w D) (m + 1) way x))))] := by
  refine valid_of_ev (G := pgf ctx) (tokf ctx) hC mixed Try.func77 T77 L77 (by simp [Try.ntmps77]) ⟨_, rfl, ?_⟩
  simp only [Try.ntmps77, Try.results77, initSt, initEnv]
  have e78 := h78 (nn way) x (by simp; omega)
  rw [idx_nn] at e78
  have e76 := h76 x hx
  refine ev_seq (ev_reg (by simp; rfl) ?_)  -- region 0
  by_cases hm : x ∈ way
  · rw [if_pos hm] at e78
    have hi : way.idxOf x < way.length := List.idxOf_lt_length_of_mem hm
    have hr : rnd (pt w D) (m + 1) way x = way.drop (way.idxOf x) := by simp only [rnd, if_pos hm]
    rw [hr]
    have hc2 : cc = false := hcc.elim id fun e => by rw [e] at hm; simp at hm
    subst hc2
    generalize way.idxOf x = i at e78 hi
    refine ev_seq (ev_seq (ev_reg (by simp [e78]; rfl) ?_))  -- region 1
    refine ev_seq (ev_reg (by simp; rfl) ?_)  -- region 2
    refine ev_cond rfl (fun hb => ?_) (fun hb => by simp at hb)  -- 12
    refine ev_seq (ev_reg (by simp [Nat.le_of_lt hi, nn_drop]; rfl) ?_)  -- region 3
    refine ev_ret ?_
    simp
    rw [nn_take_all _ _ (by simp)]
  · rw [if_neg hm] at e78
    have hr : rnd (pt w D) (m + 1) way x = rnd (pt w D) m (way ++ [x]) (pt w D x) := by simp only [rnd, if_neg hm]
    rw [hr]
    obtain ⟨_, _, _, _, _, _, hfree⟩ := pt_spec hw hx hx hd
    have e77 := h77 (way ++ [x]) (pt w D x) (pt_lt hw D hx) hfree (by simp; omega) (he.elim (fun h => absurd h hm) id)
    have ht : List.take (way.length + 1) (ints (nn way) ++ [FV.int .i64 (x : Int)]) = ints (nn (way ++ [x])) := by
      rw [List.take_of_length_le (by simp), nn_append, ints_append]; rfl
    rw [← ht] at e77
    simp only [ptP] at e77
    have hb8 : (way.length + 1) * 8 ≤ 140737488355328 := by omega
    have htk := nn_take_all way way.length (Nat.le_refl _)
    refine ev_seq (ev_seq (ev_reg (by simp [e78]; rfl) ?_))  -- region 1
    refine ev_seq (ev_reg (by simp; rfl) ?_)  -- region 2
    refine ev_cond rfl (fun hb => by simp at hb) (fun hb => ?_)  -- 12
    refine ev_skip ?_
    refine ev_seq (ev_drw rfl (by kernel_rfl) (by kernel_rfl) (by simp [ptP, e76, e77, hb8, htk]; rfl) ?_)  -- region 4
    refine ev_ret ?_
    simp
end Go.Proofs.Ytoafhoihigfllaa.E
