/-
  The chapter of the treaty: Stable by the document: the walk. Conditions: none.
-/
import Derived.Test.YtoafhoihigfllaaSi
namespace Go.Proofs.Ytoafhoihigfllaa.E
open Go Go.RowKit
set_option linter.unusedVariables false
set_option linter.unusedSimpArgs false
def goodD (m : Nat) (x : Int) : Bool := decide (-1 ≤ x) && decide (x ≤ (m : Int) - 1)
def okAskT (t : Trade) (d : List Int) : Bool := decide (d.length = t.cu.length) && d.all (goodD t.co.length)
noncomputable def valS (t : Trade) (d : List Int) : Bool := (okTrade t && okAskT t d) && stabB t d
def codeS (t : Trade) (d : List Int) : Int := if okTrade t then (if okAskT t d then 0 else 103) else 102
theorem okAsk_facts {t : Trade} {d : List Int} (h : okAskT t d = true) : d.length = t.cu.length ∧ ∀ i, i < t.cu.length → -1 ≤ d.getD i 0 ∧ d.getD i 0 < t.co.length := by
  simp only [okAskT, Bool.and_eq_true, decide_eq_true_eq, List.all_eq_true, goodD] at h
  refine ⟨h.1, fun i hi => ?_⟩
  have hl : i < d.length := by omega
  have := h.2 _ (List.getElem_mem hl)
  have e : d.getD i 0 = d[i] := by simp [List.getD_eq_getElem?_getD, List.getElem?_eq_getElem hl]
  rw [e]; omega
theorem v31 (ctx : Ctx) (hC : CtxOk (pg ctx)) (t : Trade) (d : List Int) (hd62 : d.length < 2^62) (hm62 : t.co.length < 2^62) (r1 r2 cl : Bool) (h33 : ctx 33 [(r1, tradeF t)] = some [.fv (.int .i64 (codeT t))]) (h36 : H36 ctx) (h71 : okTrade t = true → okAskT t d = true → ∀ r1 r2 cl : Bool, ctx 71 [(r1, tradeF t), (r2, .sl cl 1 (ints d))] = some [.fv (.bool (stabB t d))]) :
    Valid Try.prog 31 [(r1, tradeF t), (r2, .sl cl 1 (ints d))] [.fv (.bool (valS t d)), .fv (.int .i64 (codeS t d))] := by
  refine valid_of_ev (G := pg ctx) (tok ctx) hC mixed Try.func31 T31 L31 (by simp [Try.ntmps31]) ⟨_, rfl, ?_⟩
  simp only [tradeF, cellsT] at h33 h71
  simp only [Try.ntmps31, Try.results31, initSt, initEnv, tradeF, cellsT]
  rw [codeT] at h33
  unfold valS codeS
  cases hok : okTrade t with
  | false =>
    rw [hok] at h33
    refine ev_seq (ev_reg (by simp [boxA, vcells]; rfl) ?_)  -- region 0
    refine ev_seq (ev_seq (ev_reg (by simp [h33]; rfl) ?_))  -- region 1
    refine ev_seq (ev_reg (by simp; rfl) ?_)  -- region 2
    refine ev_cond rfl (fun hb => ?_) (fun hb => by simp at hb)  -- 12
    refine ev_seq (ev_reg (by simp; rfl) ?_)  -- region 3
    refine ev_ret ?_
    simp
  | true =>
    rw [hok] at h33
    have h71 := h71 hok
    obtain ⟨A, hA⟩ : ∃ A, A = decide (d.length = t.cu.length) := ⟨_, rfl⟩
    have hA2 : ((d.length : Int) == (t.cu.length : Int)) = A := by rw [hA, Bool.eq_iff_iff]; simp only [beq_iff_eq, decide_eq_true_eq]; omega
    have hok2 : okAskT t d = (A && d.all (goodD t.co.length)) := by rw [okAskT, hA]
    have hw3 : IntKind.i64.wrap ((t.co.length : Int) - 1) = (t.co.length : Int) - 1 := wrap_id (by omega) (by omega)
    refine ev_seq (ev_reg (by simp [boxA, vcells]; rfl) ?_)  -- region 0
    refine ev_seq (ev_seq (ev_reg (by simp [h33]; rfl) ?_))  -- region 1
    refine ev_seq (ev_reg (by simp; rfl) ?_)  -- region 2
    refine ev_cond rfl (fun hb => by simp at hb) (fun hb => ?_)  -- 12
    refine ev_skip ?_
    refine ev_seq (ev_reg (σ' := { env := [(1, V.fv r2 (FV.sl cl 1 (ints d))), (2, V.ptr 2 0), (7, V.fv false (.bool A))], blk := [(2, Blk.box [V.fv r1 (FV.sl t.fc 1 (rowsF t.cu)), V.fv r1 (FV.sl t.fd 2 (ctrysF t.co))])] }) (by simp [unsetS, hA2]) ?_)  -- region 4
    refine ev_seq (ev_seq (ev_reg (by simp; rfl) ?_))  -- region 5
    refine ev_block ?_  -- 0
    refine ev_loop (fun x : Nat × Bool => ({ env := [(1, V.fv r2 (FV.sl cl 1 (ints d))), (2, V.ptr 2 0), (7, V.fv false (.bool x.2)), (8, V.fv false (.int .i64 x.1))], blk := [(2, Blk.box [V.fv r1 (FV.sl t.fc 1 (rowsF t.cu)), V.fv r1 (FV.sl t.fd 2 (ctrysF t.co))])] } : St)) (fun x => d.length - x.1) (fun x => x.1 ≤ d.length ∧ x.2 = (A && (d.take x.1).all (goodD t.co.length))) (0, A) (by simp) (by simp) (by simp [R]; omega) (fun x hx => ?_)
    obtain ⟨i, ok⟩ := x
    obtain ⟨hi, hn⟩ := hx
    simp only at hi hn
    refine ev_seq (ev_seq (ev_reg (σ' := { env := [(1, V.fv r2 (FV.sl cl 1 (ints d))), (2, V.ptr 2 0), (7, V.fv false (.bool ok)), (8, V.fv false (.int .i64 i)), (26, V.fv false (.bool (ok && decide (i < d.length))))], blk := [(2, Blk.box [V.fv r1 (FV.sl t.fc 1 (rowsF t.cu)), V.fv r1 (FV.sl t.fd 2 (ctrysF t.co))])] }) (by cases ok <;> simp [unsetS]) ?_))  -- region 6
    refine ev_cond rfl (fun hb => ?_) (fun hb => ?_)  -- 26
    · simp at hb
      obtain ⟨hok1, hb⟩ := hb
      subst hok1
      have hw1 : IntKind.i64.wrap ((i : Int) + 1) = (i + 1 : Nat) := wrap_nat (n := i + 1) (by omega)
      have hnx := all_take_succ (goodD t.co.length) d i hb
      have e36 : ∀ r1 r2 r3, ctx 36 [(r1, .int .i64 d[i]), (r2, .int .i64 (-1)), (r3, .int .i64 ((t.co.length : Int) - 1))] = some [.fv (.bool (goodD t.co.length d[i]))] := fun r1 r2 r3 => h36 r1 r2 r3 _ _ _
      generalize goodD t.co.length d[i] = P at *
      refine ev_skip ?_
      refine ev_seq (ev_block ?_)  -- 1
      refine ev_drw rfl (by kernel_rfl) (by kernel_rfl) (by simp [hb, hw3, e36]; rfl) ?_  -- region 8
      refine ev_reg (by simp [hw1]; rfl) ?_  -- region 7
      refine ⟨(i + 1, P), by simp, ⟨by simp only; omega, ?_⟩, by simp only; omega⟩
      simp only
      rw [hnx, ← Bool.and_assoc, ← hn, Bool.true_and]
    · have hfin : ok = okAskT t d := by
        rw [hok2]
        cases ok with
        | true =>
          simp at hb
          have : i = d.length := by omega
          subst this
          rw [List.take_length] at hn
          exact hn
        | false => exact (all_take_bad hn.symm).symm
      refine ev_exit ?_  -- 0
      rw [← hfin]
      cases ok with
      | false =>
        refine ev_seq (ev_seq (ev_reg (by simp; rfl) ?_))  -- region 9
        refine ev_cond rfl (fun hb => ?_) (fun hb => by simp at hb)  -- 39
        refine ev_seq (ev_reg (by simp; rfl) ?_)  -- region 10
        refine ev_ret ?_
        simp
      | true =>
        have e71 := h71 hfin.symm
        refine ev_seq (ev_seq (ev_reg (by simp; rfl) ?_))  -- region 9
        refine ev_cond rfl (fun hb => by simp at hb) (fun hb => ?_)  -- 39
        refine ev_skip ?_
        refine ev_seq (ev_reg (by simp [e71]; rfl) ?_)  -- region 11
        refine ev_ret ?_
        simp
end Go.Proofs.Ytoafhoihigfllaa.E
