/-
  The chapter of the treaty: the law of the grounds, walked. Conditions: none.
-/
import Derived.Test.YtoafhoihigfllaaCa
import Derived.Test.YtoafhoihigfllaaTp
namespace Go.Proofs.Ytoafhoihigfllaa.E
open Go Go.RowKit
set_option linter.unusedVariables false
set_option linter.unusedSimpArgs false
theorem v39 (ctx : Ctx) (hC : CtxOk (pg ctx)) (w : List (Bool × List Int)) (c : Bool) (h24 : H24 ctx w c) (h36 : H36 ctx) (h40 : H40 ctx) (ro : Bool) :
    Valid Try.prog 39 [(ro, .sl c 1 (rowsF w))] [.fv (.bool (okWishes w))] := by
  refine valid_of_ev (G := pg ctx) (tok ctx) hC mixed Try.func39 T39 L39 (by simp [Try.ntmps39]) ⟨_, rfl, ?_⟩
  simp only [Try.ntmps39, Try.results39, initSt, initEnv]
  unfold H24 codeW at h24
  cases hok : okWishes w with
  | false =>
    rw [hok] at h24
    simp only [Bool.false_eq_true, if_false] at h24
    refine ev_seq (ev_reg (by simp; rfl) ?_)  -- region 0
    refine ev_seq (ev_reg (by simp [h24]; rfl) ?_)  -- region 1
    refine ev_seq (ev_seq (ev_reg (by simp; rfl) ?_))  -- region 2
    refine ev_block ?_  -- 0
    refine ev_loop (fun i : Nat => ({ env := [(0, V.fv ro (.sl c 1 (rowsF w))), (3, V.fv false (.bool false)), (4, V.fv false (.int .i64 0))], blk := [] } : St)) (fun i => 0) (fun i => True) 0 rfl trivial (by simp [R]) (fun i hi => ?_)
    refine ev_seq (ev_seq (ev_reg (by simp; rfl) ?_))  -- region 3
    refine ev_cond rfl (fun hb => by simp at hb) (fun hb => ?_)  -- 20
    refine ev_exit ?_  -- 0
    refine ev_seq (ev_reg (by simp; rfl) ?_)  -- region 10
    refine ev_ret ?_
    simp
  | true =>
    rw [hok] at h24
    simp only [if_true] at h24
    have hw := okWishes_wish hok
    have h8 := hw.few
    have e36 : ∀ r1 r2 r3 : Bool, ctx 36 [(r1, .int .i64 w.length), (r2, .int .i64 1), (r3, .int .i64 8)] = some [.fv (.bool true)] := fun r1 r2 r3 => by
      rw [h36]
      have h1 : decide ((1 : Int) ≤ w.length) = true := decide_eq_true (by omega)
      have h2 : decide ((w.length : Int) ≤ 8) = true := decide_eq_true (by omega)
      rw [h1, h2]; rfl
    refine ev_seq (ev_reg (by simp; rfl) ?_)  -- region 0
    refine ev_seq (ev_reg (by simp [h24, e36]; rfl) ?_)  -- region 1
    refine ev_seq (ev_seq (ev_reg (by simp; rfl) ?_))  -- region 2
    refine ev_block ?_  -- 0
    refine ev_loop (fun i : Nat => ({ env := [(0, V.fv ro (.sl c 1 (rowsF w))), (3, V.fv false (.bool true)), (4, V.fv false (.int .i64 i))], blk := [] } : St)) (fun i => w.length - i) (fun i => i ≤ w.length) 0 rfl (by simp) (by simp [R]; omega) (fun i hi => ?_)
    refine ev_seq (ev_seq (ev_reg (by simp; rfl) ?_))  -- region 3
    refine ev_cond rfl (fun hb => ?_) (fun hb => ?_)  -- 20
    · simp at hb
      have hlen := (hw.ord i hb).len
      rw [rowAt_get hb] at hlen
      have hw1 : IntKind.i64.wrap ((i : Int) + 1) = (i + 1 : Nat) := wrap_nat (n := i + 1) (by omega)
      refine ev_skip ?_
      refine ev_seq (ev_block ?_)  -- 1
      refine ev_seq (ev_reg (by simp [hb, rowF, hlen]; rfl) ?_)  -- region 5
      refine ev_seq (ev_reg (by simp; rfl) ?_)  -- region 6
      refine ev_block ?_  -- 2
      refine ev_loop (fun k : Nat => ({ env := [(0, V.fv ro (.sl c 1 (rowsF w))), (3, V.fv false (.bool true)), (4, V.fv false (.int .i64 i)), (5, V.fv false (.int .i64 k))], blk := [] } : St)) (fun k => w.length - k) (fun k => k ≤ w.length) 0 rfl (by simp) (by simp [R]; omega) (fun k hk => ?_)
      refine ev_seq (ev_seq (ev_reg (by simp; rfl) ?_))  -- region 7
      refine ev_cond rfl (fun hb2 => ?_) (fun hb2 => ?_)  -- 37
      · simp at hb2
        have hw2 : IntKind.i64.wrap ((k : Int) + 1) = (k + 1 : Nat) := wrap_nat (n := k + 1) (by omega)
        have e40 : ∀ (ro r2 c : Bool), ctx 40 [(ro, .sl c 1 (ints w[i].2)), (r2, .int .i64 (k : Int))] = some [.fv (.int .i64 ((plN w i k : Nat) : Int))] := fun ro r2 c => by
          rw [h40 w[i].2 k (by omega) ro r2 c, ← rowAt_get hb, idx_idxOf (row_mem hw hb hb2)]; rfl
        refine ev_skip ?_
        refine ev_seq (ev_block ?_)  -- 3
        refine ev_reg (by simp [hb, rowF, e40]; rfl) ?_  -- region 9
        refine ev_reg (by simp [hw2]; rfl) ?_  -- region 8
        exact ⟨k + 1, by simp, by omega, by omega⟩
      · simp at hb2
        refine ev_exit ?_  -- 2
        refine ev_reg (by simp [hw1]; rfl) ?_  -- region 4
        exact ⟨i + 1, by simp, by omega, by omega⟩
    · refine ev_exit ?_  -- 0
      refine ev_seq (ev_reg (by simp; rfl) ?_)  -- region 10
      refine ev_ret ?_
      simp
theorem modI_bound (n : Int) (p : Nat) (h1 : 1 ≤ p) (h2 : p ≤ 256) : 0 ≤ modI n p ∧ modI n p ≤ (p : Int) - 1 := by
  have a := Int.tmod_lt_of_pos n (show (0 : Int) < p by omega)
  have b := Int.lt_tmod_of_pos n (show (0 : Int) < p by omega)
  unfold modI
  split
  · rw [wrap_id (by omega) (by omega)]; omega
  · omega
def H39 (ctx : Ctx) (w : List (Bool × List Int)) (c : Bool) : Prop := ∀ ro : Bool, ctx 39 [(ro, .sl c 1 (rowsF w))] = some [.fv (.bool (okWishes w))]
theorem v8 (ctx : Ctx) (hC : CtxOk (pg ctx)) (w : List (Bool × List Int)) (c : Bool) (set : Int) (h26 : H26 ctx w c) (h39 : H39 ctx w c) (h40 : H40 ctx) (h37 : H37 ctx) (h20 : ctx 20 [] = some [.fv (.bool true)])
    (h28 : okWishes w = true → ∀ (q : Int), 0 ≤ q → q ≤ ((2 ^ w.length : Nat) : Int) - 1 → ∀ (r0 r1 r2 cx : Bool), ctx 28 [(r0, .sl c 1 (rowsF w)), (r1, .sl cx 1 (ints (swapW w))), (r2, .int .i64 q)] = some [.fv (.bool false), .fv (.int .i64 0)]) (ro r1 : Bool) :
    Valid Try.prog 8 [(ro, .sl c 1 (rowsF w)), (r1, .int .i64 set)] [.fv (.bool true)] := by
  refine valid_of_ev (G := pg ctx) (tok ctx) hC mixed Try.func8 T8 L8 (by simp [Try.ntmps8]) ⟨_, rfl, ?_⟩
  simp only [Try.ntmps8, Try.results8, initSt, initEnv]
  unfold H26 swapW codeW at h26
  unfold H39 at h39
  unfold swapW at h28
  cases hok : okWishes w with
  | false =>
    rw [hok] at h26 h39
    simp only [Bool.false_eq_true, if_false] at h26
    refine ev_seq (ev_reg (by simp; rfl) ?_)  -- region 0
    refine ev_seq (ev_reg (by simp [h26]; rfl) ?_)  -- region 1
    refine ev_seq (ev_seq (ev_reg (by simp [h39]; rfl) ?_))  -- region 2
    refine ev_cond rfl (fun hb => ?_) (fun hb => by simp at hb)  -- 19
    refine ev_seq (ev_reg (by simp [h20]; rfl) ?_)  -- region 3
    refine ev_ret ?_
    simp
  | true =>
    have h28 := h28 hok
    rw [hok] at h26 h39 h28
    simp only [if_true] at h26 h28
    have hw := okWishes_wish hok
    have h8 := hw.few
    have hsw := swapped hw
    generalize swapOf w.length (ringsOf w) = x at *
    have hxl := hsw.ord.len
    have htx : List.take x.length (ints x) = ints x := List.take_of_length_le (by simp)
    obtain ⟨hp1, hp2, hp3⟩ := pow_small h8.2
    have hmin : min w.length IntKind.i64.bits = w.length := min_bits (by omega)
    have hpw : IntKind.i64.wrap ((2 ^ w.length : Nat) : Int) = ((2 ^ w.length : Nat) : Int) := wrap_nat (by omega)
    have hps : IntKind.i64.wrap (((2 ^ w.length : Nat) : Int) - 1) = ((2 ^ w.length : Nat) : Int) - 1 := wrap_id (by omega) (by omega)
    have e37 := h37 set ((2 ^ w.length : Nat) : Int) (by omega)
    have hmb := modI_bound set (2 ^ w.length) hp3 hp2
    generalize 2 ^ w.length = p at *
    generalize modI set (p : Int) = q at *
    obtain ⟨D, hg, hall⟩ := hsw.good
    have hf := hg.facts hw
    refine ev_seq (ev_reg (by simp; rfl) ?_)  -- region 0
    refine ev_seq (ev_reg (by simp [h26]; rfl) ?_)  -- region 1
    refine ev_seq (ev_seq (ev_reg (by simp [h39]; rfl) ?_))  -- region 2
    refine ev_cond rfl (fun hb => by simp at hb) (fun hb => ?_)  -- 19
    refine ev_skip ?_
    refine ev_seq (ev_seq (ev_reg (by simp [hxl]; rfl) ?_))  -- region 4
    refine ev_cond rfl (fun hb => by simp at hb) (fun hb => ?_)  -- 38
    refine ev_skip ?_
    refine ev_seq (ev_seq (ev_reg (by simp; rfl) ?_))  -- region 6
    refine ev_block ?_  -- 0
    refine ev_loop (fun i : Nat => ({ env := [(0, V.fv ro (.sl c 1 (rowsF w))), (1, V.fv r1 (.int .i64 set)), (5, V.own 5 0 x.length), (7, V.fv false (.int .i64 i))], blk := [(5, Blk.arr 1 (ints x))] } : St)) (fun i => w.length - i) (fun i => i ≤ w.length) 0 (by simp [hxl]) (by simp) (by simp [R]; omega) (fun i hi => ?_)
    refine ev_seq (ev_seq (ev_reg (by simp; rfl) ?_))  -- region 7
    refine ev_cond rfl (fun hb => ?_) (fun hb => ?_)  -- 42
    · simp at hb
      have hw1 : IntKind.i64.wrap ((i : Int) + 1) = (i + 1 : Nat) := wrap_nat (n := i + 1) (by omega)
      have hix : i < x.length := by omega
      have hlen := (hw.ord i hb).len
      rw [rowAt_get hb] at hlen
      have hxi : x[i] = ((hasN x i : Nat) : Int) := by
        have := hsw.ord.rng x[i] (List.getElem_mem _)
        rw [hasN, List.getD_eq_getElem?_getD, List.getElem?_eq_getElem hix, Option.getD_some]; omega
      have hxn : hasN x i < w.length := hf.lt _ (hf.closed i (hall i hb))
      have hown := hf.own i (hall i hb)
      have e40x : ∀ (ro r2 c : Bool), ctx 40 [(ro, .sl c 1 (ints x)), (r2, .int .i64 (i : Int))] = some [.fv (.int .i64 ((x.idxOf (i : Int) : Nat) : Int))] := fun ro r2 c => by
        rw [h40 x i (by omega) ro r2 c, idx_idxOf (Wish.mem hsw.ord hb)]
      have e40r : ∀ g : Nat, g < w.length → ∀ (ro r2 c : Bool), ctx 40 [(ro, .sl c 1 (ints w[i].2)), (r2, .int .i64 (g : Int))] = some [.fv (.int .i64 ((plN w i g : Nat) : Int))] := fun g hg ro r2 c => by
        rw [h40 w[i].2 g (by omega) ro r2 c, ← rowAt_get hb, idx_idxOf (row_mem hw hb hg)]; rfl
      have e1 := e40r _ hxn
      have e2 := e40r i hb
      generalize hasN x i = xi at *
      generalize x.idxOf (i : Int) = a at *
      have hnl : (plN w i i < plN w i xi) = False := by simp; omega
      refine ev_skip ?_
      refine ev_seq (ev_block ?_)  -- 1
      refine ev_seq (ev_drw rfl (by kernel_rfl) (by kernel_rfl) (by simp [htx, hix, hxi, hb, rowF, e40x, e1, e2, hnl]; rfl) ?_)  -- region 9
      refine ev_cond rfl (fun hb => by simp at hb) (fun hb => ?_)  -- 78
      refine ev_skip ?_
      refine ev_reg (by simp [hw1]; rfl) ?_  -- region 8
      exact ⟨i + 1, by simp, by omega, by omega⟩
    · simp at hb
      refine ev_exit ?_  -- 0
      refine ev_seq (ev_drw rfl (by kernel_rfl) (by kernel_rfl) (by simp [fshift, hmin, hp1, hpw, hps, e37]; rfl) ?_)  -- region 11
      refine ev_seq (ev_seq (ev_reg (by simp; rfl) ?_))  -- region 12
      refine ev_block ?_  -- 2
      refine ev_loop (fun j : Nat => ({ env := [(0, V.fv ro (.sl c 1 (rowsF w))), (5, V.own 5 0 x.length), (8, V.own 8 0 2), (9, V.fv false (.int .i64 j))], blk := [(5, Blk.arr 1 (ints x)), (8, Blk.arr 1 [.int .i64 q, .int .i64 ((p : Int) - 1)])] } : St)) (fun j => 2 - j) (fun j => j ≤ 2) 0 rfl (by omega) (by simp [R]) (fun j hj => ?_)
      refine ev_seq (ev_seq (ev_reg (by simp; rfl) ?_))  -- region 13
      refine ev_cond rfl (fun hb => ?_) (fun hb => ?_)  -- 90
      · simp at hb
        have hw1 : IntKind.i64.wrap ((j : Int) + 1) = (j + 1 : Nat) := wrap_nat (n := j + 1) (by omega)
        have e28a := h28 q hmb.1 hmb.2
        have e28b := h28 ((p : Int) - 1) (by omega) (by omega)
        have hj2 : j = 0 ∨ j = 1 := by omega
        refine ev_skip ?_
        refine ev_seq (ev_block ?_)  -- 3
        refine ev_seq (ev_reg (σ' := { env := [(0, V.fv ro (.sl c 1 (rowsF w))), (5, V.own 5 0 x.length), (8, V.own 8 0 2), (9, V.fv false (.int .i64 j)), (10, V.fv false (.bool false)), (11, V.fv false (.int .i64 0))], blk := [(5, Blk.arr 1 (ints x)), (8, Blk.arr 1 [.int .i64 q, .int .i64 ((p : Int) - 1)])] }) (by rcases hj2 with rfl | rfl <;> simp [htx, e28a, e28b]) ?_)  -- region 15
        refine ev_seq (ev_reg (by simp; rfl) ?_)  -- region 16
        refine ev_cond rfl (fun hb => by simp at hb) (fun hb => ?_)  -- 107
        refine ev_skip ?_
        refine ev_reg (by simp [hw1]; rfl) ?_  -- region 14
        exact ⟨j + 1, by simp, by omega, by omega⟩
      · refine ev_exit ?_  -- 2
        refine ev_seq (ev_reg (by simp [h20]; rfl) ?_)  -- region 18
        refine ev_ret ?_
        simp
end Go.Proofs.Ytoafhoihigfllaa.E
