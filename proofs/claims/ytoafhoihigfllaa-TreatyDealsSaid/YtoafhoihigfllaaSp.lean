/-
  The chapter of the treaty: the law of the deals: the walk. Conditions: none.
-/
import Derived.Test.YtoafhoihigfllaaSo
namespace Go.Proofs.Ytoafhoihigfllaa.E
open Go Go.RowKit
set_option linter.unusedVariables false
set_option linter.unusedSimpArgs false
theorem dealsW_len (t : Trade) : (dealsW t).length < 2^62 := by
  unfold dealsW
  cases hok : okTrade t with
  | false => simp
  | true =>
    have hT := okTrade_iff.mp hok
    simp only [if_true]
    rw [(dealsOf_best hT).st.len]
    have := hT.n; omega
theorem v6 (ctx : Ctx) (hC : CtxOk (pg ctx)) (t : Trade) (d : List Int) (r2 cl : Bool) (h30 : ∀ r2 cl, ctx 30 [(false, tradeF t), (r2, .sl cl 1 (ints d))] = some [.fv (.bool (valS t d)), .fv (.int .i64 (codeS t d))])
    (h31 : ∀ r1 r2 cl, ctx 31 [(r1, tradeF t), (r2, .sl cl 1 (ints d))] = some [.fv (.bool (valS t d)), .fv (.int .i64 (codeS t d))]) (h32 : ctx 32 [(false, tradeF t)] = some [.fv (.int .i64 (codeT t))]) (h33 : ∀ r1, ctx 33 [(r1, tradeF t)] = some [.fv (.int .i64 (codeT t))])
    (h34 : H34 ctx t) (h35 : ∀ r1, ctx 35 [(r1, tradeF t)] = some [.us 1 (ints (dealsW t)), .fv (.int .i64 (codeT t))]) (h17 : H17 ctx) (h20 : ctx 20 [] = some [.fv (.bool true)]) :
    Valid Try.prog 6 [(false, tradeF t), (r2, .sl cl 1 (ints d))] [.fv (.bool true)] := by
  refine valid_of_ev (G := pg ctx) (tok ctx) hC mixed Try.func6 T6 L6 (by simp [Try.ntmps6]) ⟨_, rfl, ?_⟩
  unfold H34 at h34
  simp only [tradeF, cellsT] at h30 h31 h32 h33 h34 h35
  simp only [Try.ntmps6, Try.results6, initSt, initEnv, tradeF, cellsT]
  have hlen := dealsW_len t
  have e17 := h17 (dealsW t) (dealsW t) hlen hlen
  have htk : (dealsW t).take (dealsW t).length = dealsW t := List.take_of_length_le (Nat.le_refl _)
  generalize dealsW t = l at *
  generalize codeT t = c at *
  generalize codeS t d = e at *
  generalize valS t d = b at *
  cases b <;> (
  refine ev_seq (ev_reg (by simp [boxA, vcells]; rfl) ?_)  -- region 0
  refine ev_seq (ev_reg (by simp [h30]; rfl) ?_)  -- region 1
  refine ev_seq (ev_reg (by simp [h31]; rfl) ?_)  -- region 2
  refine ev_seq (ev_seq (ev_drw rfl (by kernel_rfl) (by kernel_rfl) (by simp [h32, h33]; rfl) ?_))  -- region 3
  refine ev_cond rfl (fun hb => by simp at hb) (fun hb => ?_)  -- 37
  refine ev_skip ?_
  refine ev_seq (ev_reg (by simp [h34]; rfl) ?_)  -- region 5
  refine ev_seq (ev_reg (by simp [h35]; rfl) ?_)  -- region 6
  refine ev_seq (ev_reg (by simp [e17, htk, h20]; rfl) ?_)  -- region 7
  refine ev_ret ?_
  simp)
theorem law6 (t : Trade) (ht : Trade47 t) (hfl : ∀ p ∈ t.cu, p.1 = false) (d : List Int) (hd : d.length < 2^62) (r2 cl : Bool) : Valid Try.prog 6 [(false, tradeF t), (r2, .sl cl 1 (ints d))] [.fv (.bool true)] :=
  v6 _ (fam_ctx [F30, F31, F32, F33, F34, F35, F17, F20]) t d r2 cl (fun r2 cl => at30 rfl ht d hd r2 cl) (fun r1 r2 cl => fam_at (F := F31) rfl ((r1, r2, cl), ⟨t, ht, hfl⟩, ⟨d, hd⟩) rfl rfl) (at32 rfl ht false) (fun r1 => at33 rfl ht r1) (at34 rfl ht) (fun r1 => fam_at (F := F35) rfl (r1, ⟨t, ht⟩) rfl rfl) (at17 rfl) (fam_at (F := F20) rfl () rfl rfl)
end Go.Proofs.Ytoafhoihigfllaa.E
