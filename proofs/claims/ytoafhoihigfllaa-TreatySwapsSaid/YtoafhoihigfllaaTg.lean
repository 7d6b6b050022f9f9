/-
  The chapter of the treaty: the specification's claims and shares. Conditions: none.
-/
import Derived.Test.YtoafhoihigfllaaTe
import Derived.Test.YtoafhoihigfllaaTf
namespace Go.Proofs.Ytoafhoihigfllaa.E
open Go Go.RowKit
set_option linter.unusedVariables false
set_option linter.unusedSimpArgs false

def H36 (ctx : Ctx) : Prop := ∀ (r1 r2 r3 : Bool) (a b c : Int), ctx 36 [(r1, .int .i64 a), (r2, .int .i64 b), (r3, .int .i64 c)] = some [.fv (.bool (decide (b ≤ a) && decide (a ≤ c)))]
def H38 (ctx : Ctx) : Prop := ∀ (ro c : Bool) (l : List Int), l.length < 2^62 → ctx 38 [(ro, .sl c 1 (ints l))] = some [.fv (.int .i64 (sumI l))]
theorem v50 (ctx : Ctx) (hC : CtxOk (pg ctx)) (q : Int) (l : List Int) (hl : l.length < 2^40) (ro c r3 : Bool) (level : Int) :
    Valid Try.prog 50 [(ro, fClaims q c l), (r3, .int .i64 level)] [.us 1 (ints (atI l level))] := by
  refine valid_of_ev (G := pg ctx) (tok ctx) hC mixed Try.func50 T50 L50 (by simp [Try.ntmps50]) ⟨_, rfl, ?_⟩
  simp only [Try.ntmps50, Try.results50, initSt, initEnv, fClaims]
  refine ev_seq (ev_reg (by simp; rfl) ?_)  -- region 0
  refine ev_seq (ev_reg (by simp; rfl) ?_)  -- region 1
  refine ev_seq (ev_seq (ev_reg (by simp; rfl) ?_))  -- region 2
  refine ev_block ?_  -- 0
  refine ev_loop (fun i : Nat => ({ env := [(1, V.fv r3 (FV.int .i64 level)), (2, V.ptr 2 0), (5, V.own 5 0 i), (6, V.fv false (FV.int .i64 i))], blk := [(2, Blk.box [V.fv false (FV.int .i64 q), V.fv ro (FV.sl c 1 (ints l))]), (5, Blk.arr 1 (ints (atI (l.take i) level)))] } : St)) (fun i => l.length - i) (fun i => i ≤ l.length) 0 rfl (by simp) (by simp [R]; omega) (fun i hi => ?_)
  have hlen : (atI (l.take i) level).length = i := by simp [atI]; omega
  refine ev_seq (ev_seq (ev_reg (by simp; rfl) ?_))  -- region 3
  refine ev_cond rfl (fun hb => ?_) (fun hb => ?_)  -- 11
  · simp at hb
    have h8 : (i + 1) * 8 ≤ 140737488355328 := by omega
    refine ev_skip ?_
    refine ev_seq (ev_block ?_)  -- 1
    refine ev_reg (by simp [hb, hlen, h8]; rfl) ?_  -- region 5
    refine ev_reg (by simp; rfl) ?_  -- region 4
    refine ⟨i + 1, ?_, by omega, by omega⟩
    simp [atI_take hb, minI]
    exact wrap_nat (n := i + 1) (by omega)
  · simp at hb
    refine ev_exit ?_  -- 0
    refine ev_seq (ev_reg (by simp; rfl) ?_)  -- region 6
    refine ev_ret ?_
    have : i = l.length := by omega
    subst this
    simp at hlen
    simp [hlen]
theorem v19 (ctx : Ctx) (hC : CtxOk (pg ctx)) (h36 : H36 ctx) (h38 : H38 ctx) (q : Int) (l : List Int) (hl : l.length < 2^62) (ro c : Bool) :
    Valid Try.prog 19 [(ro, fClaims q c l)] [.fv (.int .i64 (if okClaims q l then 0 else 100))] := by
  refine valid_of_ev (G := pg ctx) (tok ctx) hC mixed Try.func19 T19 L19 (by simp [Try.ntmps19]) ⟨_, rfl, ?_⟩
  simp only [Try.ntmps19, Try.results19, initSt, initEnv, fClaims]
  obtain ⟨A, hA⟩ : ∃ A, A = (decide ((1 : Int) ≤ l.length) && decide ((l.length : Int) ≤ 8)) := ⟨_, rfl⟩
  obtain ⟨D, hD⟩ : ∃ D, D = (decide ((0 : Int) ≤ q) && decide (q ≤ sumI l)) := ⟨_, rfl⟩
  have eA : ∀ (r1 r2 r3 : Bool), ctx 36 [(r1, .int .i64 l.length), (r2, .int .i64 1), (r3, .int .i64 8)] = some [.fv (.bool A)] := fun r1 r2 r3 => by rw [hA]; exact h36 r1 r2 r3 _ _ _
  have eC : ∀ (ro c : Bool), ctx 38 [(ro, .sl c 1 (ints l))] = some [.fv (.int .i64 (sumI l))] := fun ro c => h38 ro c l hl
  have eD : ∀ (r1 r2 r3 : Bool), ctx 36 [(r1, .int .i64 q), (r2, .int .i64 0), (r3, .int .i64 (sumI l))] = some [.fv (.bool D)] := fun r1 r2 r3 => by rw [hD]; exact h36 r1 r2 r3 _ _ _
  have eW : ∀ (r1 r2 r3 : Bool) (n : Int), ctx 36 [(r1, .int .i64 n), (r2, .int .i64 0), (r3, .int .i64 100000)] = some [.fv (.bool (!wrongRight n))] := fun r1 r2 r3 n => by rw [wrongRight, Bool.not_not]; exact h36 r1 r2 r3 _ _ _
  have hok : okClaims q l = (A && !l.any wrongRight && D) := by
    rw [hA, hD, okClaims]
    have h1 : decide (1 ≤ l.length) = decide ((1 : Int) ≤ l.length) := by simp; omega
    have h2 : decide (l.length ≤ 8) = decide ((l.length : Int) ≤ 8) := by simp; omega
    rw [h1, h2]
  rw [hok]
  clear hok hA hD
  refine ev_seq (ev_reg (by simp; rfl) ?_)  -- region 0
  refine ev_seq (ev_reg (by simp [eA]; rfl) ?_)  -- region 1
  refine ev_seq (ev_seq (ev_reg (by simp; rfl) ?_))  -- region 2
  refine ev_block ?_  -- 0
  refine ev_loop (fun x : Nat × Bool => ({ env := [(1, V.ptr 1 0), (3, V.fv false (.bool x.2)), (4, V.fv false (.int .i64 x.1))], blk := [(1, Blk.box [V.fv false (FV.int .i64 q), V.fv ro (FV.sl c 1 (ints l))])] } : St)) (fun x => l.length - x.1) (fun x => x.1 ≤ l.length ∧ x.2 = (A && !(l.take x.1).any wrongRight)) (0, A) rfl (by simp) (by simp [R]; omega) (fun x hi => ?_)
  obtain ⟨i, ok⟩ := x
  obtain ⟨hi, hn⟩ := hi
  simp only at hi hn
  cases ok with
  | true =>
    refine ev_seq (ev_seq (ev_reg (by simp; rfl) ?_))  -- region 3
    refine ev_cond rfl (fun hb => ?_) (fun hb => ?_)  -- 16
    · simp at hb
      refine ev_skip ?_
      refine ev_seq (ev_block ?_)  -- 1
      refine ev_reg (by simp [hb, eW]; rfl) ?_  -- region 5
      refine ev_reg (by simp; rfl) ?_  -- region 4
      refine ⟨(i + 1, !wrongRight l[i]), ?_, ⟨by simp only; omega, ?_⟩, by simp only; omega⟩
      · simp
        exact wrap_nat (n := i + 1) (by omega)
      · simp only [List.take_add_one, List.getElem?_eq_getElem hb, Option.toList_some, List.any_append, List.any_cons, List.any_nil, Bool.or_false, Bool.not_or]
        rw [← Bool.and_assoc, ← hn, Bool.true_and]
    · simp at hb
      have hA : A = true ∧ l.any wrongRight = false := by
        rw [List.take_of_length_le hb] at hn
        simpa using hn.symm
      refine ev_exit ?_  -- 0
      refine ev_seq (ev_seq (ev_drw rfl (by kernel_rfl) (by kernel_rfl) (by simp [T19, eC, eD]; rfl) ?_))  -- region 6
      refine ev_cond rfl (fun hb => ?_) (fun hb => ?_)  -- 35
      · simp at hb
        refine ev_seq (ev_reg (by simp; rfl) ?_)  -- region 7
        refine ev_ret ?_
        simp [hb]
      · simp at hb
        refine ev_skip ?_
        refine ev_seq (ev_reg (by simp; rfl) ?_)  -- region 8
        refine ev_ret ?_
        simp [hb, hA.1, hA.2]
  | false =>
    have hbad : (A && !l.any wrongRight) = false := by
      cases A with
      | false => rfl
      | true =>
        simp only [Bool.true_and, Bool.not_eq_false'] at hn ⊢
        have hn' : (l.take i).any wrongRight = true := by simpa using hn.symm
        rw [List.any_eq_true] at hn' ⊢
        obtain ⟨x, hx, hw⟩ := hn'
        exact ⟨x, List.mem_of_mem_take hx, hw⟩
    refine ev_seq (ev_seq (ev_reg (by simp [unsetS]; rfl) ?_))  -- region 3
    refine ev_cond rfl (fun hb => by simp at hb) (fun hb => ?_)  -- 16
    refine ev_exit ?_  -- 0
    refine ev_seq (ev_seq (ev_drw rfl (by kernel_rfl) (by kernel_rfl) (by simp [T19]; rfl) ?_))  -- region 6
    refine ev_cond rfl (fun hb => ?_) (fun hb => by simp at hb)  -- 35
    refine ev_seq (ev_reg (by simp; rfl) ?_)  -- region 7
    refine ev_ret ?_
    simp [hbad]
end Go.Proofs.Ytoafhoihigfllaa.E
