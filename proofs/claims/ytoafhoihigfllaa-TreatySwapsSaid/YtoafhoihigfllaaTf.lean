/-
  The chapter of the treaty: the specifications' small functions. Conditions: none.
-/
import Derived.Test.YtoafhoihigfllaaTc
namespace Go.Proofs.Ytoafhoihigfllaa.E
open Go Go.RowKit
set_option linter.unusedVariables false
set_option linter.unusedSimpArgs false

theorem v36 (ctx : Ctx) (hC : CtxOk (pg ctx)) (a b c : Int) (r1 r2 r3 : Bool) : Valid Try.prog 36 [(r1, .int .i64 a), (r2, .int .i64 b), (r3, .int .i64 c)] [.fv (.bool (decide (b ≤ a) && decide (a ≤ c)))] := by
  refine valid_of_ev (G := pg ctx) (tok ctx) hC mixed Try.func36 T36 L36 (by simp [Try.ntmps36]) ⟨_, rfl, ?_⟩
  simp only [Try.ntmps36, Try.results36, initSt, initEnv]
  refine ev_seq (ev_reg (by simp; rfl) ?_)  -- region 0
  by_cases h : b ≤ a
  · refine ev_seq (ev_reg (by simp [h]; rfl) ?_)  -- region 1
    refine ev_ret ?_
    simp [h]
  · refine ev_seq (ev_reg (by simp [h, unsetS]; rfl) ?_)  -- region 1
    refine ev_ret ?_
    simp [h]
theorem v38 (ctx : Ctx) (hC : CtxOk (pg ctx)) (l : List Int) (ro : Bool) (c : Bool) (hl : l.length < 2^62) : Valid Try.prog 38 [(ro, .sl c 1 (ints l))] [.fv (.int .i64 (sumI l))] := by
  refine valid_of_ev (G := pg ctx) (tok ctx) hC mixed Try.func38 T38 L38 (by simp [Try.ntmps38]) ⟨_, rfl, ?_⟩
  simp only [Try.ntmps38, Try.results38, initSt, initEnv]
  refine ev_seq (ev_reg (by simp; rfl) ?_)  -- region 0
  refine ev_seq (ev_reg (by simp; rfl) ?_)  -- region 1
  refine ev_seq (ev_seq (ev_reg (by simp; rfl) ?_))  -- region 2
  refine ev_block ?_  -- 0
  refine ev_loop (fun i : Nat => ({ env := [(0, V.fv ro (FV.sl c 1 (ints l))), (3, V.fv false (FV.int .i64 (sumI (l.take i)))), (4, V.fv false (FV.int .i64 i))], blk := [] } : St)) (fun i => l.length - i) (fun i => i ≤ l.length) 0 rfl (by simp) (by simp [R]; omega) (fun i hi => ?_)
  refine ev_seq (ev_seq (ev_reg (by simp; rfl) ?_))  -- region 3
  refine ev_cond rfl (fun hb => ?_) (fun hb => ?_)  -- 8
  · simp at hb
    refine ev_skip ?_
    refine ev_seq (ev_block ?_)  -- 1
    refine ev_reg (by simp [hb]; rfl) ?_  -- region 5
    refine ev_reg (by simp; rfl) ?_  -- region 4
    refine ⟨i + 1, ?_, by omega, by omega⟩
    simp [sumI_take l i hb]
    exact wrap_nat (n := i + 1) (by omega)
  · simp at hb
    refine ev_exit ?_  -- 0
    refine ev_seq (ev_reg (by simp; rfl) ?_)  -- region 6
    refine ev_ret ?_
    simp [List.take_of_length_le hb]
theorem v40 (ctx : Ctx) (hC : CtxOk (pg ctx)) (l : List Int) (n : Int) (hl : l.length < 2^62) (ro r2 c : Bool) : Valid Try.prog 40 [(ro, .sl c 1 (ints l)), (r2, .int .i64 n)] [.fv (.int .i64 (idx (· == n) l))] := by
  refine valid_of_ev (G := pg ctx) (tok ctx) hC mixed Try.func40 T40 L40 (by simp [Try.ntmps40]) ⟨_, rfl, ?_⟩
  simp only [Try.ntmps40, Try.results40, initSt, initEnv]
  refine ev_seq (ev_reg (by simp; rfl) ?_)  -- region 0
  refine ev_seq (ev_seq (ev_reg (by simp; rfl) ?_))  -- region 1
  refine ev_block ?_  -- 0
  refine ev_loop (fun i : Nat => ({ env := [(0, V.fv ro (FV.sl c 1 (ints l))), (1, V.fv r2 (.int .i64 n)), (5, V.fv false (FV.int .i64 i))], blk := [] } : St)) (fun i => l.length - i) (fun i => i ≤ l.length ∧ ∀ x ∈ l.take i, (x == n) = false) 0 rfl (by simp) (by simp [R]; omega) (fun i hi => ?_)
  obtain ⟨hi, hn⟩ := hi
  refine ev_seq (ev_seq (ev_reg (by simp; rfl) ?_))  -- region 2
  refine ev_cond rfl (fun hb => ?_) (fun hb => ?_)  -- 9
  · simp at hb
    refine ev_skip ?_
    refine ev_seq (ev_block ?_)  -- 1
    refine ev_seq (ev_reg (by simp [hb]; rfl) ?_)  -- region 4
    refine ev_cond rfl (fun hb2 => ?_) (fun hb2 => ?_)  -- 17
    · refine ev_seq (ev_reg (by simp; rfl) ?_)  -- region 5
      refine ev_ret ?_
      have := idx_some (p := (· == n)) hb hn hb2
      simp [idx, this]
    · refine ev_skip ?_
      refine ev_reg (by simp; rfl) ?_  -- region 3
      refine ⟨i + 1, ?_, ⟨by omega, take_all (p := (· == n)) hb hn hb2⟩, by omega⟩
      simp
      exact wrap_nat (n := i + 1) (by omega)
  · simp at hb
    refine ev_exit ?_  -- 0
    refine ev_seq (ev_reg (by simp; rfl) ?_)  -- region 6
    refine ev_ret ?_
    have hnone : l.findIdx? (· == n) = none := by
      rw [List.findIdx?_eq_none_iff]
      rw [List.take_of_length_le hb] at hn
      exact hn
    simp [idx, hnone]
theorem v17 (ctx : Ctx) (hC : CtxOk (pg ctx)) (l m : List Int) (hl : l.length < 2^62) (hm : m.length < 2^62) (ro r2 c c2 : Bool) : Valid Try.prog 17 [(ro, .sl c 1 (ints l)), (r2, .sl c2 1 (ints m))] [.fv (.bool (decide (l = m)))] := by
  refine valid_of_ev (G := pg ctx) (tok ctx) hC mixed Try.func17 T17 L17 (by simp [Try.ntmps17]) ⟨_, rfl, ?_⟩
  simp only [Try.ntmps17, Try.results17, initSt, initEnv]
  refine ev_seq (ev_reg (by simp; rfl) ?_)  -- region 0
  refine ev_seq (ev_seq (ev_reg (by simp; rfl) ?_))  -- region 1
  refine ev_cond rfl (fun hb => ?_) (fun hb => ?_)  -- 10
  · simp at hb
    refine ev_seq (ev_reg (by simp; rfl) ?_)  -- region 2
    refine ev_ret ?_
    have : l ≠ m := fun e => hb (by rw [e])
    simp [this]
  · simp at hb
    refine ev_skip ?_
    refine ev_seq (ev_seq (ev_reg (by simp; rfl) ?_))  -- region 3
    refine ev_block ?_  -- 0
    refine ev_loop (fun i : Nat => ({ env := [(0, V.fv ro (FV.sl c 1 (ints l))), (1, V.fv r2 (FV.sl c2 1 (ints m))), (5, V.fv false (FV.int .i64 i))], blk := [] } : St)) (fun i => l.length - i) (fun i => i ≤ l.length ∧ l.take i = m.take i) 0 rfl (by simp) (by simp [R]; omega) (fun i hi => ?_)
    obtain ⟨hi, hn⟩ := hi
    refine ev_seq (ev_seq (ev_reg (by simp; rfl) ?_))  -- region 4
    refine ev_cond rfl (fun hb2 => ?_) (fun hb2 => ?_)  -- 14
    · simp at hb2
      have hb3 : i < m.length := by omega
      refine ev_skip ?_
      refine ev_seq (ev_block ?_)  -- 1
      refine ev_seq (ev_drw rfl (by kernel_rfl) (by kernel_rfl) (by simp [hb2, hb3]; rfl) ?_)  -- region 6
      refine ev_cond rfl (fun hb4 => ?_) (fun hb4 => ?_)  -- 25
      · simp at hb4
        refine ev_seq (ev_reg (by simp; rfl) ?_)  -- region 7
        refine ev_ret ?_
        have : l ≠ m := fun e => by subst e; exact hb4 rfl
        simp [this]
      · simp at hb4
        refine ev_skip ?_
        refine ev_reg (by simp; rfl) ?_  -- region 5
        refine ⟨i + 1, ?_, ⟨by omega, ?_⟩, by omega⟩
        · simp
          exact wrap_nat (n := i + 1) (by omega)
        · rw [List.take_add_one, List.take_add_one, List.getElem?_eq_getElem hb2, List.getElem?_eq_getElem hb3, hn, hb4]
    · simp at hb2
      refine ev_exit ?_  -- 0
      refine ev_seq (ev_reg (by simp; rfl) ?_)  -- region 8
      refine ev_ret ?_
      have : l = m := by
        rw [List.take_of_length_le hb2, List.take_of_length_le (by omega)] at hn
        exact hn
      simp [this]
/-- the rest of a division, from 0 on -/
def modI (n d : Int) : Int := if n.tmod d < 0 then IntKind.i64.wrap (n.tmod d + d) else n.tmod d
theorem v37 (ctx : Ctx) (hC : CtxOk (pg ctx)) (n d : Int) (hd : d ≠ 0) (r1 r2 : Bool) : Valid Try.prog 37 [(r1, .int .i64 n), (r2, .int .i64 d)] [.fv (.int .i64 (modI n d))] := by
  refine valid_of_ev (G := pg ctx) (tok ctx) hC mixed Try.func37 T37 L37 (by simp [Try.ntmps37]) ⟨_, rfl, ?_⟩
  simp only [Try.ntmps37, Try.results37, initSt, initEnv]
  refine ev_seq (ev_reg (by simp; rfl) ?_)  -- region 0
  refine ev_seq (ev_reg (by simp [hd]; rfl) ?_)  -- region 1
  refine ev_seq (ev_seq (ev_reg (by simp; rfl) ?_))  -- region 2
  refine ev_cond rfl (fun hb => ?_) (fun hb => ?_)  -- 10
  · simp at hb
    refine ev_reg (by simp; rfl) ?_  -- region 3
    refine ev_seq (ev_reg (by simp; rfl) ?_)  -- region 4
    refine ev_ret ?_
    simp [modI, hb]
  · simp at hb
    refine ev_skip ?_
    refine ev_seq (ev_reg (by simp; rfl) ?_)  -- region 4
    refine ev_ret ?_
    simp [modI, Int.not_lt.2 hb]
end Go.Proofs.Ytoafhoihigfllaa.E
