/-
  The chapter of the treaty: who is taken, as the document counts: the walk. Conditions: none.
-/
import Derived.Test.YtoafhoihigfllaaSd
namespace Go.Proofs.Ytoafhoihigfllaa.E
open Go Go.RowKit
set_option linter.unusedVariables false
set_option linter.unusedSimpArgs false
theorem v73 (ctx : Ctx) (hC : CtxOk (pg ctx)) (t : Trade) (d : List Int) (c : Nat) (hc : c < t.co.length) (hL : IsOrd (likesAt t c) d.length) (hd : d.length ≤ 8) (r1 r2 r3 cl : Bool) :
    Valid Try.prog 73 [(r1, tradeF t), (r2, .sl cl 1 (ints d)), (r3, .int .i64 c)] [.fv (.int .i64 (tkn d c (likesAt t c)).1), .fv (.int .i64 (tkn d c (likesAt t c)).2)] := by
  refine valid_of_ev (G := pg ctx) (tok ctx) hC mixed Try.func73 T73 L73 (by simp [Try.ntmps73]) ⟨_, rfl, ?_⟩
  simp only [Try.ntmps73, Try.results73, initSt, initEnv, tradeF, cellsT]
  have hlg := likesAt_get hc
  have hll := hL.len
  rw [hlg] at hll
  refine ev_seq (ev_reg (by simp [boxA, vcells]; rfl) ?_)  -- region 0
  refine ev_seq (ev_reg (by simp; rfl) ?_)  -- region 1
  refine ev_seq (ev_seq (ev_reg (by simp; rfl) ?_))  -- region 2
  refine ev_block ?_  -- 0
  refine ev_loop (fun x : Nat × Nat × Int => ({ env := [(1, V.fv r2 (FV.sl cl 1 (ints d))), (2, V.fv r3 (FV.int .i64 c)), (3, V.ptr 3 0), (8, V.fv false (.int .i64 x.2.1)), (9, V.fv false (.int .i64 x.2.2)), (10, V.fv false (.int .i64 x.1))], blk := [(3, Blk.box [V.fv r1 (FV.sl t.fc 1 (rowsF t.cu)), V.fv r1 (FV.sl t.fd 2 (ctrysF t.co))])] } : St)) (fun x => d.length - x.1) (fun x => x.1 ≤ d.length ∧ x.2 = tkn d c ((likesAt t c).take x.1)) (0, 0, -1) (by simp) (by simp [tkn]) (by simp [R]; omega) (fun x hi => ?_)
  obtain ⟨i, n, w⟩ := x
  obtain ⟨hi, hn⟩ := hi
  simp only at hi hn
  have hnb := tkn_le d c ((likesAt t c).take i)
  rw [← hn, List.length_take] at hnb
  simp only at hnb
  refine ev_seq (ev_seq (ev_reg (by simp; rfl) ?_))  -- region 3
  refine ev_cond rfl (fun hb => ?_) (fun hb => ?_)  -- 15
  · simp at hb
    have hil : i < (likesAt t c).length := by rw [hL.len]; exact hb
    have hnx := tkn_succ d c hil
    rw [← hn] at hnx
    obtain ⟨x, hx⟩ : ∃ x : Nat, (likesAt t c)[i] = (x : Int) := ⟨((likesAt t c)[i]).toNat, by have := hL.rng _ (List.getElem_mem hil); omega⟩
    have hxd : x < d.length := by have := hL.rng _ (List.getElem_mem hil); omega
    rw [hx] at hnx
    have hx2 : t.co[c].2.2[i]? = some (x : Int) := by
      rw [← hlg, List.getElem?_eq_getElem hil, hx]
    obtain ⟨hx4, hx3⟩ := List.getElem?_eq_some_iff.mp hx2
    have hw1 : IntKind.i64.wrap ((i : Int) + 1) = (i + 1 : Nat) := wrap_nat (n := i + 1) (by omega)
    have hw2 : IntKind.i64.wrap ((n : Int) + 1) = (n + 1 : Nat) := wrap_nat (n := n + 1) (by omega)
    obtain ⟨B, hB⟩ : ∃ B, B = (d[x] == (c : Int)) := ⟨_, rfl⟩
    have hsn : tknS d c (n, w) (x : Int) = if B then (n + 1, (x : Int)) else (n, w) := by
      rw [tknS, hB, Int.toNat_natCast]
      simp [List.getD_eq_getElem?_getD, List.getElem?_eq_getElem hxd]
    rw [hsn] at hnx
    refine ev_skip ?_
    refine ev_seq (ev_block ?_)  -- 1
    refine ev_seq (ev_reg (by simp [hc, ctryF, hll, hb, hx2, hx3, hx4]; rfl) ?_)  -- region 5
    refine ev_seq (ev_reg (by simp [hxd, ← hB]; rfl) ?_)  -- region 6
    cases B with
    | true =>
      refine ev_cond rfl (fun hb => ?_) (fun hb => by simp at hb)  -- 32
      refine ev_seq (ev_reg (by simp [hw2]; rfl) ?_)  -- region 7
      refine ev_reg (by simp; rfl) ?_  -- region 8
      refine ev_reg (by simp [hw1]; rfl) ?_  -- region 4
      exact ⟨(i + 1, n + 1, x), by simp, ⟨by simp only; omega, by simp only; rw [hnx]; rfl⟩, by simp only; omega⟩
    | false =>
      refine ev_cond rfl (fun hb => by simp at hb) (fun hb => ?_)  -- 32
      refine ev_skip ?_
      refine ev_reg (by simp [hw1]; rfl) ?_  -- region 4
      exact ⟨(i + 1, n, w), by simp, ⟨by simp only; omega, by simp only; rw [hnx]; rfl⟩, by simp only; omega⟩
  · simp at hb
    have : i = d.length := by omega
    subst this
    rw [List.take_of_length_le (by rw [hL.len]; exact Nat.le_refl _)] at hn
    refine ev_exit ?_  -- 0
    refine ev_seq (ev_reg (by simp; rfl) ?_)  -- region 9
    refine ev_ret ?_
    simp [← hn]
def H73 (ctx : Ctx) (t : Trade) : Prop := ∀ (d : List Int) (c : Nat), d.length = t.cu.length → c < t.co.length → ∀ r1 r2 r3 cl : Bool, ctx 73 [(r1, tradeF t), (r2, .sl cl 1 (ints d)), (r3, .int .i64 c)] = some [.fv (.int .i64 (sellN d c).length), .fv (.int .i64 (leastN t d c))]
end Go.Proofs.Ytoafhoihigfllaa.E
