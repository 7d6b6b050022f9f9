/-
  The chapter of the treaty: small functions. Conditions: none.
-/
import Derived.Test.YtoafhoihigfllaaTl
namespace Go.Proofs.Ytoafhoihigfllaa.E
open Go Go.RowKit
set_option linter.unusedVariables false
set_option linter.unusedSimpArgs false
def sumI (l : List Int) : Int := l.foldl (fun n x => IntKind.i64.wrap (n + x)) 0
theorem sumI_take (l : List Int) (i : Nat) (h : i < l.length) : sumI (l.take (i + 1)) = IntKind.i64.wrap (sumI (l.take i) + l[i]) := by
  simp only [sumI, List.take_add_one, List.getElem?_eq_getElem h, Option.toList_some, List.foldl_append, List.foldl_cons, List.foldl_nil]
/-- a length and the next one -/
theorem wrap_id {n : Int} (h : -9223372036854775808 ≤ n) (h' : n < 9223372036854775808) : IntKind.i64.wrap n = n := by
  show (if (true && decide (n % 18446744073709551616 ≥ 9223372036854775808)) = true then n % 18446744073709551616 - 18446744073709551616 else n % 18446744073709551616) = n
  simp only [Bool.true_and, decide_eq_true_eq]
  split <;> omega
theorem wrap_nat {n : Nat} (h : n < 9223372036854775808) : IntKind.i64.wrap n = n := wrap_id (by omega) (by omega)

theorem v48 (ctx : Ctx) (hC : CtxOk (pg ctx)) (l : List Int) (ro : Bool) (c : Bool) (hl : l.length < 2^62) : Valid Try.prog 48 [(ro, .sl c 1 (ints l))] [.fv (.int .i64 (sumI l))] := by
  refine valid_of_ev (G := pg ctx) (tok ctx) hC mixed Try.func48 T48 L48 (by simp [Try.ntmps48]) ⟨_, rfl, ?_⟩
  simp only [Try.ntmps48, Try.results48, initSt, initEnv]
  refine ev_seq (ev_reg (by simp; rfl) ?_)  -- region 0
  refine ev_seq (ev_seq (ev_reg (by simp; rfl) ?_))  -- region 1
  refine ev_block ?_  -- 0
  refine ev_loop (fun i : Nat => ({ env := [(2, V.fv false (FV.int .i64 (sumI (l.take i)))), (5, V.fv ro (FV.sl c 1 (ints l))), (6, V.fv false (FV.int .i64 l.length)), (7, V.fv false (FV.int .i64 i))], blk := [] } : St)) (fun i => l.length - i) (fun i => i ≤ l.length) 0 rfl (by simp) (by simp [R]; omega) (fun i hi => ?_)
  refine ev_seq (ev_reg (by simp; rfl) ?_)  -- region 2
  refine ev_seq (ev_cond rfl (fun hb => ?_) (fun hb => ?_))  -- 8
  · simp at hb
    refine ev_skip ?_
    refine ev_seq (ev_block ?_)  -- 1
    refine ev_seq (ev_reg (by simp [hb]; rfl) ?_)  -- region 3
    refine ev_reg (by simp; rfl) ?_  -- region 4
    refine ev_reg (by simp; rfl) ?_  -- region 5
    refine ⟨i + 1, ?_, by omega, by omega⟩
    simp [sumI_take l i hb]
    exact wrap_nat (n := i + 1) (by omega)
  · simp at hb
    refine ev_exit ?_  -- 0
    refine ev_seq (ev_reg (by simp; rfl) ?_)  -- region 6
    refine ev_ret ?_
    simp [List.take_of_length_le hb]
theorem v51 (ctx : Ctx) (hC : CtxOk (pg ctx)) (a b c : Int) (r1 r2 r3 : Bool) : Valid Try.prog 51 [(r1, .int .i64 a), (r2, .int .i64 b), (r3, .int .i64 c)] [.fv (.bool (decide (b ≤ a) && decide (a ≤ c)))] := by
  refine valid_of_ev (G := pg ctx) (tok ctx) hC mixed Try.func51 T51 L51 (by simp [Try.ntmps51]) ⟨_, rfl, ?_⟩
  simp only [Try.ntmps51, Try.results51, initSt, initEnv]
  refine ev_seq (ev_reg (by simp; rfl) ?_)  -- region 0
  by_cases h : b ≤ a
  · refine ev_seq (ev_reg (by simp [h]; rfl) ?_)  -- region 1
    refine ev_ret ?_
    simp [h]
  · refine ev_seq (ev_reg (by simp [h, unsetS]; rfl) ?_)  -- region 1
    refine ev_ret ?_
    simp [h]
end Go.Proofs.Ytoafhoihigfllaa.E
