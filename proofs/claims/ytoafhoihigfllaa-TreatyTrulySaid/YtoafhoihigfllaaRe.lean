/-
  The chapter of the treaty: the functions of the trade: walks. Conditions: none.
-/
import Derived.Test.YtoafhoihigfllaaSy
import Derived.Test.YtoafhoihigfllaaFf
namespace Go.Proofs.Ytoafhoihigfllaa.E
open Go Go.RowKit
set_option linter.unusedVariables false
set_option linter.unusedSimpArgs false
/-- a country: its room, and whom it likes -/
abbrev Ctry := Int × Bool × List Int
def ctryF (p : Ctry) : FV := .agg [.int .i64 p.1, .sl p.2.1 1 (ints p.2.2)]
def ctrysF (l : List Ctry) : List FV := l.map ctryF
@[simp] theorem ctrysF_length (l : List Ctry) : (ctrysF l).length = l.length := by simp [ctrysF]
@[simp] theorem ctrysF_get (l : List Ctry) (i : Nat) (h : i < (ctrysF l).length) : (ctrysF l)[i] = ctryF (l[i]'(by simpa using h)) := by simp [ctrysF]
@[simp] theorem ctrysF_get? (l : List Ctry) (i : Nat) : (ctrysF l)[i]? = l[i]?.map ctryF := by simp [ctrysF]
structure Trade where
  fc : Bool
  cu : List (Bool × List Int)
  fd : Bool
  co : List Ctry
def cellsT (t : Trade) : List FV := [.sl t.fc 1 (rowsF t.cu), .sl t.fd 2 (ctrysF t.co)]
def tradeF (t : Trade) : FV := .agg (cellsT t)
/-- does one sell to a country -/
def selB (deals : List Int) (c : Int) (i : Nat) : Bool := deals.getD i 0 == c
/-- who sells to a country -/
def sellN (deals : List Int) (c : Int) : List Nat := (List.range deals.length).filter (selB deals c)
theorem filter_range_succ (p : Nat → Bool) (i : Nat) : (List.range (i + 1)).filter p = (List.range i).filter p ++ (if p i then [i] else []) := by
  rw [List.range_succ, List.filter_append]
  cases h : p i <;> simp [h]
theorem v68 (ctx : Ctx) (hC : CtxOk (pg ctx)) (deals : List Int) (hl : deals.length ≤ 8) (k : Int) (r1 r2 c : Bool) :
    Valid Try.prog 68 [(r1, .sl c 1 (ints deals)), (r2, .int .i64 k)] [.us 1 (ints (nn (sellN deals k)))] := by
  refine valid_of_ev (G := pg ctx) (tok ctx) hC mixed Try.func68 T68 L68 (by simp [Try.ntmps68]) ⟨_, rfl, ?_⟩
  simp only [Try.ntmps68, Try.results68, initSt, initEnv]
  refine ev_seq (ev_reg (by simp; rfl) ?_)  -- region 0
  refine ev_seq (ev_reg (by simp; rfl) ?_)  -- region 1
  refine ev_seq (ev_seq (ev_reg (by simp; rfl) ?_))  -- region 2
  refine ev_block ?_  -- 0
  refine ev_loop (fun i : Nat => ({ env := [(1, V.fv r2 (.int .i64 k)), (5, V.own 5 0 ((List.range i).filter (selB deals k)).length), (8, V.fv r1 (.sl c 1 (ints deals))), (9, V.fv false (.int .i64 deals.length)), (10, V.fv false (.int .i64 i))], blk := [(5, Blk.arr 1 (ints (nn ((List.range i).filter (selB deals k)))))] } : St)) (fun i => deals.length - i) (fun i => i ≤ deals.length) 0 rfl (by simp) (by simp [R]; omega) (fun i hi => ?_)
  have hml : ((List.range i).filter (selB deals k)).length ≤ 8 := Nat.le_trans (List.length_filter_le _ _) (by simp; omega)
  refine ev_seq (ev_reg (by simp; rfl) ?_)  -- region 3
  refine ev_seq (ev_cond rfl (fun hb => ?_) (fun hb => ?_))  -- 11
  · simp at hb
    have hw1 : IntKind.i64.wrap ((i : Int) + 1) = (i + 1 : Nat) := wrap_nat (n := i + 1) (by omega)
    have hb8 : (((List.range i).filter (selB deals k)).length + 1) * 8 ≤ 140737488355328 := by omega
    have hnx := filter_range_succ (selB deals k) i
    have hg : selB deals k i = (deals[i] == k) := by simp [selB, List.getD_eq_getElem?_getD, List.getElem?_eq_getElem hb]
    rw [hg] at hnx
    generalize hm : (List.range i).filter (selB deals k) = m at *
    obtain ⟨B, hB⟩ : ∃ B, B = (deals[i] == k) := ⟨_, rfl⟩
    rw [← hB] at hnx
    refine ev_skip ?_
    refine ev_seq (ev_block ?_)  -- 1
    refine ev_seq (ev_reg (by simp [hb]; rfl) ?_)  -- region 4
    refine ev_seq (ev_reg (by simp [← hB]; rfl) ?_)  -- region 5
    cases B with
    | true =>
      refine ev_cond rfl (fun hb => ?_) (fun hb => by simp at hb)  -- 17
      refine ev_reg (by simp [hb8]; rfl) ?_  -- region 6
      refine ev_reg (by simp [hw1]; rfl) ?_  -- region 7
      refine ⟨i + 1, ?_, by omega, by omega⟩
      rw [hnx]
      simp [nn_append]
      simp [nn, ints]
    | false =>
      refine ev_cond rfl (fun hb => by simp at hb) (fun hb => ?_)  -- 17
      refine ev_skip ?_
      refine ev_reg (by simp [hw1]; rfl) ?_  -- region 7
      refine ⟨i + 1, ?_, by omega, by omega⟩
      rw [hnx]
      simp
  · simp at hb
    have hin : i = deals.length := by omega
    subst hin
    refine ev_exit ?_  -- 0
    refine ev_seq (ev_reg (by simp; rfl) ?_)  -- region 8
    refine ev_ret ?_
    unfold sellN
    simp
def likesAt (t : Trade) (c : Nat) : List Int := (t.co.getD c (0, false, [])).2.2
def rankN (t : Trade) (c : Nat) (k : Nat) : Int := idx (· == (k : Int)) (likesAt t c)
theorem likesAt_get {t : Trade} {c : Nat} (h : c < t.co.length) : likesAt t c = t.co[c].2.2 := by simp [likesAt, List.getD_eq_getElem?_getD, List.getElem?_eq_getElem h]
theorem v89 (ctx : Ctx) (hC : CtxOk (pg ctx)) (h78 : H78 ctx) (t : Trade) (c k : Nat) (hc : c < t.co.length) (hl : (likesAt t c).length < 2^62) (q1 q2 : Bool) :
    Valid Try.prog 89 [(q1, .agg [.int .i64 k, .int .i64 c]), (q2, .pt (cellsT t) 0)] [.fv (.int .i64 (rankN t c k))] := by
  refine valid_of_ev (G := pg ctx) (tok ctx) hC mixed Try.func89 T89 L89 (by simp [Try.ntmps89]) ⟨_, rfl, ?_⟩
  simp only [Try.ntmps89, Try.results89, initSt, initEnv, cellsT]
  have e78 := h78 (likesAt t c) k hl
  rw [show idx (· == (k : Int)) (likesAt t c) = rankN t c k from rfl, likesAt_get hc] at e78
  refine ev_seq (ev_reg (by simp [boxA, vcells]; rfl) ?_)  -- region 0
  refine ev_seq (ev_drw rfl (by kernel_rfl) (by kernel_rfl) (by simp [hc, ctryF, e78]; rfl) ?_)  -- region 1
  refine ev_ret ?_
  simp
theorem v85 (ctx : Ctx) (hC : CtxOk (pg ctx)) (t : Trade) (q : Bool) : Valid Try.prog 85 [(false, tradeF t)] [.fv (.agg [.fn (.func 89) [] [.pt (cellsT t) 0]])] := by
  refine valid_of_ev (G := pg ctx) (tok ctx) hC mixed Try.func85 T85 L85 (by simp [Try.ntmps85]) ⟨_, rfl, ?_⟩
  simp only [Try.ntmps85, Try.results85, initSt, initEnv, tradeF, cellsT]
  refine ev_seq (ev_reg (by simp [boxA, vcells]; rfl) ?_)  -- region 0
  refine ev_seq (ev_reg (by simp; rfl) ?_)  -- region 1
  refine ev_ret ?_
  simp
end Go.Proofs.Ytoafhoihigfllaa.E
namespace Go.Proofs.Ytoafhoihigfllaa.E
open Go Go.RowKit
set_option linter.unusedVariables false
set_option linter.unusedSimpArgs false
def H89 (ctx : Ctx) (t : Trade) (n : Nat) : Prop := ∀ (c k : Nat), c < t.co.length → k < n → ∀ (q1 q2 : Bool), ctx 89 [(q1, .agg [.int .i64 k, .int .i64 c]), (q2, .pt (cellsT t) 0)] = some [.fv (.int .i64 (rankN t c k))]
def H85 (ctx : Ctx) (t : Trade) : Prop := ctx 85 [(false, tradeF t)] = some [.fv (.agg [.fn (.func 89) [] [.pt (cellsT t) 0]])]
/-- the one who is liked least -/
def worstN (t : Trade) (c : Nat) (l : List Nat) : Nat := l.foldl (fun w k => if rankN t c w < rankN t c k then k else w) (l.headD 0)
theorem worst_lt {t : Trade} {c n : Nat} {l : List Nat} (h : ∀ x ∈ l, x < n) (h0 : 0 < n) : worstN t c l < n := by
  have key : ∀ (l : List Nat) (w : Nat), w < n → (∀ x ∈ l, x < n) → l.foldl (fun w k => if rankN t c w < rankN t c k then k else w) w < n := by
    intro l
    induction l with
    | nil => exact fun w hw _ => hw
    | cons x l ih =>
      intro w hw h
      refine ih _ ?_ (fun y hy => h y (List.mem_cons_of_mem _ hy))
      simp only
      split
      · exact h x List.mem_cons_self
      · exact hw
  refine key l _ ?_ h
  cases l with
  | nil => exact h0
  | cons x l => exact h x List.mem_cons_self
theorem v72 (ctx : Ctx) (hC : CtxOk (pg ctx)) (t : Trade) (n : Nat) (h89 : H89 ctx t n) (h85 : H85 ctx t) (l : List Nat) (hl0 : 0 < l.length) (hl : l.length ≤ 8) (hn : ∀ x ∈ l, x < n) (c : Nat) (hc : c < t.co.length) (r1 r2 r3 cl : Bool) :
    Valid Try.prog 72 [(false, tradeF t), (r2, .sl cl 1 (ints (nn l))), (r3, .int .i64 c)] [.fv (.int .i64 (worstN t c l))] := by
  refine valid_of_ev (G := pg ctx) (tok ctx) hC mixed Try.func72 T72 L72 (by simp [Try.ntmps72]) ⟨_, rfl, ?_⟩
  unfold H85 at h85
  simp only [tradeF, cellsT] at h85
  simp only [Try.ntmps72, Try.results72, initSt, initEnv, tradeF, cellsT]
  have hn0 : 0 < n := Nat.lt_of_le_of_lt (Nat.zero_le _) (hn l[0] (List.getElem_mem _))
  have hhead : l.headD 0 = l[0] := by cases l with | nil => simp at hl0 | cons => rfl
  refine ev_seq (ev_reg (by simp [boxA, vcells]; rfl) ?_)  -- region 0
  refine ev_seq (ev_reg (by simp [h85]; rfl) ?_)  -- region 1
  refine ev_seq (ev_reg (by simp [hl0]; rfl) ?_)  -- region 2
  refine ev_seq (ev_seq (ev_reg (by simp; rfl) ?_))  -- region 3
  refine ev_block ?_  -- 0
  refine ev_loop (fun y : Nat × Nat => ({ env := [(2, V.fv r3 (.int .i64 c)), (7, V.ptr 7 0), (8, V.fv false (.int .i64 y.2)), (16, V.fv r2 (.sl cl 1 (ints (nn l)))), (17, V.fv false (.int .i64 l.length)), (18, V.fv false (.int .i64 y.1))], blk := [(7, Blk.box [.fv false (.fn (.func 89) [] [.pt [.sl t.fc 1 (rowsF t.cu), .sl t.fd 2 (ctrysF t.co)] 0])])] } : St)) (fun y => l.length - y.1) (fun y => y.1 ≤ l.length ∧ y.2 < n ∧ y.2 = (l.take y.1).foldl (fun w k => if rankN t c w < rankN t c k then k else w) (l.headD 0)) (0, l.headD 0) (by simp only [hhead]; rfl) ⟨by simp, by rw [hhead]; exact hn _ (List.getElem_mem _), by simp⟩ (by simp [R]; omega) (fun y hy => ?_)
  obtain ⟨i, w⟩ := y
  obtain ⟨hi, hwn, hw⟩ := hy
  simp only at hi hwn hw
  refine ev_seq (ev_reg (by simp; rfl) ?_)  -- region 4
  refine ev_seq (ev_cond rfl (fun hb => ?_) (fun hb => ?_))  -- 19
  · simp at hb
    have hw1 : IntKind.i64.wrap ((i : Int) + 1) = (i + 1 : Nat) := wrap_nat (n := i + 1) (by omega)
    obtain ⟨k, hk⟩ : ∃ k, l[i] = k := ⟨_, rfl⟩
    have hkn : k < n := hk ▸ hn _ (List.getElem_mem _)
    have e1 := fun q1 q2 => h89 c k hc hkn q1 q2
    have e2 := fun q1 q2 => h89 c w hc hwn q1 q2
    simp only [cellsT] at e1 e2
    have hnx : (l.take (i + 1)).foldl (fun w k => if rankN t c w < rankN t c k then k else w) (l.headD 0) = if rankN t c w < rankN t c k then k else w := by
      rw [List.take_add_one, List.getElem?_eq_getElem hb, hk, List.foldl_append, ← hw]; rfl
    obtain ⟨B, hB⟩ : ∃ B, B = decide (rankN t c w < rankN t c k) := ⟨_, rfl⟩
    refine ev_skip ?_
    refine ev_seq (ev_block ?_)  -- 1
    refine ev_seq (ev_reg (by simp [hb, hk]; rfl) ?_)  -- region 5
    refine ev_seq (ev_drw rfl (by kernel_rfl) (by kernel_rfl) (by simp [e1, e2, ← hB]; rfl) ?_)  -- region 6
    cases B with
    | true =>
      refine ev_cond rfl (fun hb => ?_) (fun hb => by simp at hb)  -- 34
      refine ev_reg (by simp; rfl) ?_  -- region 7
      refine ev_reg (by simp [hw1]; rfl) ?_  -- region 8
      refine ⟨(i + 1, k), by simp, ⟨by simp only; omega, hkn, ?_⟩, by simp only; omega⟩
      simp only
      rw [hnx, if_pos (of_decide_eq_true hB.symm)]
    | false =>
      refine ev_cond rfl (fun hb => by simp at hb) (fun hb => ?_)  -- 34
      refine ev_skip ?_
      refine ev_reg (by simp [hw1]; rfl) ?_  -- region 8
      refine ⟨(i + 1, w), by simp, ⟨by simp only; omega, hwn, ?_⟩, by simp only; omega⟩
      simp only
      rw [hnx, if_neg (of_decide_eq_false hB.symm)]
  · simp at hb
    have hin : i = l.length := by omega
    subst hin
    refine ev_exit ?_  -- 0
    refine ev_seq (ev_reg (by simp; rfl) ?_)  -- region 9
    refine ev_ret ?_
    rw [List.take_length] at hw
    rw [worstN, ← hw]
    simp
/-- how many sell to a country -/
def manyN (deals : List Int) (c : Int) : Nat := (sellN deals c).length
theorem v46 (ctx : Ctx) (hC : CtxOk (pg ctx)) (deals : List Int) (hl : deals.length ≤ 8) (k : Int) (r1 r2 c : Bool) :
    Valid Try.prog 46 [(r1, .sl c 1 (ints deals)), (r2, .int .i64 k)] [.fv (.int .i64 (manyN deals k))] := by
  refine valid_of_ev (G := pg ctx) (tok ctx) hC mixed Try.func46 T46 L46 (by simp [Try.ntmps46]) ⟨_, rfl, ?_⟩
  simp only [Try.ntmps46, Try.results46, initSt, initEnv]
  refine ev_seq (ev_reg (by simp; rfl) ?_)  -- region 0
  refine ev_seq (ev_reg (by simp; rfl) ?_)  -- region 1
  refine ev_seq (ev_seq (ev_reg (by simp; rfl) ?_))  -- region 2
  refine ev_block ?_  -- 0
  refine ev_loop (fun i : Nat => ({ env := [(0, V.fv r1 (.sl c 1 (ints deals))), (1, V.fv r2 (.int .i64 k)), (5, V.fv false (.int .i64 ((List.range i).filter (selB deals k)).length)), (6, V.fv false (.int .i64 i))], blk := [] } : St)) (fun i => deals.length - i) (fun i => i ≤ deals.length) 0 rfl (by simp) (by simp [R]; omega) (fun i hi => ?_)
  have hml : ((List.range i).filter (selB deals k)).length ≤ 8 := Nat.le_trans (List.length_filter_le _ _) (by simp; omega)
  refine ev_seq (ev_seq (ev_reg (by simp; rfl) ?_))  -- region 3
  refine ev_cond rfl (fun hb => ?_) (fun hb => ?_)  -- 10
  · simp at hb
    have hw1 : IntKind.i64.wrap ((i : Int) + 1) = (i + 1 : Nat) := wrap_nat (n := i + 1) (by omega)
    have hnx := filter_range_succ (selB deals k) i
    have hg : selB deals k i = (deals[i] == k) := by simp [selB, List.getD_eq_getElem?_getD, List.getElem?_eq_getElem hb]
    rw [hg] at hnx
    generalize hm : ((List.range i).filter (selB deals k)) = m at *
    have hw2 : IntKind.i64.wrap ((m.length : Int) + 1) = (m.length + 1 : Nat) := wrap_nat (n := m.length + 1) (by omega)
    obtain ⟨B, hB⟩ : ∃ B, B = (deals[i] == k) := ⟨_, rfl⟩
    rw [← hB] at hnx
    refine ev_skip ?_
    refine ev_seq (ev_block ?_)  -- 1
    refine ev_seq (ev_reg (by simp [hb, ← hB]; rfl) ?_)  -- region 5
    cases B with
    | true =>
      refine ev_cond rfl (fun hb => ?_) (fun hb => by simp at hb)  -- 18
      refine ev_reg (by simp [hw2]; rfl) ?_  -- region 6
      refine ev_reg (by simp [hw1]; rfl) ?_  -- region 4
      refine ⟨i + 1, ?_, by omega, by omega⟩
      rw [hnx]
      simp
    | false =>
      refine ev_cond rfl (fun hb => by simp at hb) (fun hb => ?_)  -- 18
      refine ev_skip ?_
      refine ev_reg (by simp [hw1]; rfl) ?_  -- region 4
      refine ⟨i + 1, ?_, by omega, by omega⟩
      rw [hnx]
      simp
  · simp at hb
    have hin : i = deals.length := by omega
    subst hin
    refine ev_exit ?_  -- 0
    refine ev_seq (ev_reg (by simp; rfl) ?_)  -- region 7
    refine ev_ret ?_
    simp [manyN, sellN]
end Go.Proofs.Ytoafhoihigfllaa.E
namespace Go.Proofs.Ytoafhoihigfllaa.E
open Go Go.RowKit
set_option linter.unusedVariables false
set_option linter.unusedSimpArgs false
def H68 (ctx : Ctx) : Prop := ∀ (deals : List Int) (k : Int), deals.length ≤ 8 → ∀ (r1 r2 c : Bool), ctx 68 [(r1, .sl c 1 (ints deals)), (r2, .int .i64 k)] = some [.us 1 (ints (nn (sellN deals k)))]
def H72 (ctx : Ctx) (t : Trade) (n : Nat) : Prop := ∀ (l : List Nat) (c : Nat), 0 < l.length → l.length ≤ 8 → (∀ x ∈ l, x < n) → c < t.co.length → ∀ (r2 r3 cl : Bool), ctx 72 [(false, tradeF t), (r2, .sl cl 1 (ints (nn l))), (r3, .int .i64 c)] = some [.fv (.int .i64 (worstN t c l))]
def roomAt (t : Trade) (c : Nat) : Int := (t.co.getD c (0, false, [])).1
theorem roomAt_get {t : Trade} {c : Nat} (h : c < t.co.length) : roomAt t c = t.co[c].1 := by simp [roomAt, List.getD_eq_getElem?_getD, List.getElem?_eq_getElem h]
/-- would a country take a curer -/
def takesB (t : Trade) (deals : List Int) (k c : Nat) : Bool := decide (((sellN deals c).length : Int) < roomAt t c) || (decide (0 < roomAt t c) && decide (rankN t c k < rankN t c (worstN t c (sellN deals c))))
theorem sellN_le (deals : List Int) (c : Int) : (sellN deals c).length ≤ deals.length := by
  have := List.length_filter_le (selB deals c) (List.range deals.length)
  simpa [sellN] using this
theorem sellN_lt {deals : List Int} {c : Int} : ∀ x ∈ sellN deals c, x < deals.length := fun x hx => by
  simp only [sellN, List.mem_filter, List.mem_range] at hx; exact hx.1
theorem v70 (ctx : Ctx) (hC : CtxOk (pg ctx)) (t : Trade) (h68 : H68 ctx) (deals : List Int) (hl : deals.length ≤ 8) (h72 : H72 ctx t deals.length) (h89 : H89 ctx t deals.length) (h85 : H85 ctx t) (k c : Nat) (hk : k < deals.length) (hc : c < t.co.length) (r2 r3 cl : Bool) :
    Valid Try.prog 70 [(false, tradeF t), (r2, .sl cl 1 (ints deals)), (r3, .agg [.int .i64 k, .int .i64 c])] [.fv (.bool (takesB t deals k c))] := by
  refine valid_of_ev (G := pg ctx) (tok ctx) hC mixed Try.func70 T70 L70 (by simp [Try.ntmps70]) ⟨_, rfl, ?_⟩
  have e68 := h68 deals c hl
  have hle := sellN_le deals c
  have hlt := @sellN_lt deals c
  have hroom := roomAt_get hc
  have e1 := fun q1 q2 => h89 c k hc hk q1 q2
  have e72 := fun h0 => h72 (sellN deals c) c h0 (by omega) hlt hc
  have hwl := fun h0 => worst_lt (t := t) (c := c) (l := sellN deals c) hlt h0
  have e2 := fun q1 q2 => h89 c (worstN t c (sellN deals c)) hc (hwl (by omega)) q1 q2
  unfold takesB
  unfold H85 at h85
  simp only [tradeF, cellsT] at h85 e72 e1 e2
  simp only [Try.ntmps70, Try.results70, initSt, initEnv, tradeF, cellsT]
  generalize sellN deals c = l at *
  generalize roomAt t c = room at *
  have htl := nn_take_all l l.length (Nat.le_refl _)
  refine ev_seq (ev_reg (by simp [boxA, vcells]; rfl) ?_)  -- region 0
  refine ev_seq (ev_reg (by simp [e68]; rfl) ?_)  -- region 1
  refine ev_seq (ev_reg (by simp [hc, ctryF, ← hroom]; rfl) ?_)  -- region 2
  obtain ⟨A, hA⟩ : ∃ A, A = decide ((l.length : Int) < room) := ⟨_, rfl⟩
  rw [← hA]
  refine ev_seq (ev_seq (ev_reg (by simp [← hA]; rfl) ?_))  -- region 3
  cases A with
  | true =>
    refine ev_cond rfl (fun hb => ?_) (fun hb => by simp at hb)  -- 24
    refine ev_seq (ev_reg (by simp; rfl) ?_)  -- region 4
    refine ev_ret ?_
    simp
  | false =>
    refine ev_cond rfl (fun hb => by simp at hb) (fun hb => ?_)  -- 24
    refine ev_skip ?_
    by_cases hr0 : 0 < room
    · have hl0 : 0 < l.length := by
        have := of_decide_eq_false hA.symm
        omega
      have e72 := e72 hl0
      obtain ⟨B, hB⟩ : ∃ B, B = decide (rankN t c k < rankN t c (worstN t c l)) := ⟨_, rfl⟩
      rw [← hB]
      refine ev_seq (ev_drw rfl (by kernel_rfl) (by kernel_rfl) (by simp [hr0, h85, e1, htl, e72, e2, ← hB]; rfl) ?_)  -- region 5
      refine ev_ret ?_
      simp [hr0]
    · refine ev_seq (ev_drw rfl (by kernel_rfl) (by kernel_rfl) (by simp [hr0]; rfl) ?_)  -- region 5
      refine ev_ret ?_
      simp [hr0]
def listAt (t : Trade) (i : Nat) : List Int := (t.cu.getD i (false, [])).2
theorem listAt_get {t : Trade} {i : Nat} (h : i < t.cu.length) : listAt t i = t.cu[i].2 := by simp [listAt, List.getD_eq_getElem?_getD, List.getElem?_eq_getElem h]
/-- how early a country comes in a curer's list -/
def placeT (t : Trade) (i : Nat) (c : Int) : Int := if 0 ≤ idx (· == c) (listAt t i) then idx (· == c) (listAt t i) else (listAt t i).length
theorem v45 (ctx : Ctx) (hC : CtxOk (pg ctx)) (h40 : H40 ctx) (t : Trade) (i : Nat) (hi : i < t.cu.length) (hl : (listAt t i).length < 2^62) (c : Int) (r1 r2 r3 : Bool) :
    Valid Try.prog 45 [(r1, tradeF t), (r2, .int .i64 i), (r3, .int .i64 c)] [.fv (.int .i64 (placeT t i c))] := by
  refine valid_of_ev (G := pg ctx) (tok ctx) hC mixed Try.func45 T45 L45 (by simp [Try.ntmps45]) ⟨_, rfl, ?_⟩
  have e40 := h40 (listAt t i) c hl
  have hg := listAt_get hi
  unfold placeT
  simp only [Try.ntmps45, Try.results45, initSt, initEnv, tradeF, cellsT]
  rw [hg] at e40 ⊢
  generalize idx (· == c) t.cu[i].2 = x at *
  refine ev_seq (ev_reg (by simp [boxA, vcells]; rfl) ?_)  -- region 0
  refine ev_seq (ev_seq (ev_reg (by simp [hi, rowF, e40]; rfl) ?_))  -- region 1
  obtain ⟨B, hB⟩ : ∃ B, B = decide (0 ≤ x) := ⟨_, rfl⟩
  refine ev_seq (ev_reg (by simp [← hB]; rfl) ?_)  -- region 2
  cases B with
  | true =>
    rw [if_pos (of_decide_eq_true hB.symm)]
    refine ev_cond rfl (fun hb => ?_) (fun hb => by simp at hb)  -- 16
    refine ev_seq (ev_reg (by simp; rfl) ?_)  -- region 3
    refine ev_ret ?_
    simp
  | false =>
    rw [if_neg (of_decide_eq_false hB.symm)]
    refine ev_cond rfl (fun hb => by simp at hb) (fun hb => ?_)  -- 16
    refine ev_skip ?_
    refine ev_seq (ev_reg (by simp [hi, rowF]; rfl) ?_)  -- region 4
    refine ev_ret ?_
    simp
end Go.Proofs.Ytoafhoihigfllaa.E
namespace Go.Proofs.Ytoafhoihigfllaa.E
open Go Go.RowKit
set_option linter.unusedVariables false
set_option linter.unusedSimpArgs false
/-- those ahead of one -/
def before (th : Int) : List Int → List Int
  | [] => []
  | x :: r => if x = th then [] else x :: before th r
theorem before_step (th : Int) : ∀ (l : List Int) (j : Nat), j ≤ (before th l).length → (j < l.length → (∀ (h : j < l.length), (l[j] = th → (before th l).length = j) ∧ (l[j] ≠ th → j < (before th l).length ∧ (before th l)[j]? = some l[j]))) ∧ (l.length ≤ j → (before th l).length = j)
  | [], j, h => ⟨fun h2 => by simp at h2, fun _ => by simp [before] at h ⊢; omega⟩
  | x :: r, j, h => by
    by_cases e : x = th
    · simp only [before, if_pos e, List.length_nil] at h ⊢
      have : j = 0 := by omega
      subst this
      exact ⟨fun _ h2 => ⟨fun _ => rfl, fun h3 => absurd e h3⟩, fun h2 => by simp at h2⟩
    · simp only [before, if_neg e, List.length_cons] at h ⊢
      cases j with
      | zero => exact ⟨fun _ h2 => ⟨fun h3 => absurd h3 e, fun _ => ⟨by omega, rfl⟩⟩, fun h2 => by omega⟩
      | succ j =>
        obtain ⟨a, b⟩ := before_step th r j (by omega)
        refine ⟨fun h2 h3 => ?_, fun h2 => by rw [b (by omega)]⟩
        obtain ⟨c, d⟩ := a (by omega) (by simpa using h3)
        simp only [List.getElem_cons_succ, List.getElem?_cons_succ]
        exact ⟨fun h4 => by rw [c h4], fun h4 => ⟨by have := (d h4).1; omega, (d h4).2⟩⟩
def outs1 (l : List Int) : List (List FV) := l.map fun c => [.int .i64 c]
noncomputable def pgy (ctx : Ctx) (zs : List (List FV)) (st : Option Nat) : Pg := { pg ctx with yl := some (some zs, st) }
section
variable (ctx : Ctx) (zs : List (List FV)) (st : Option Nat)
@[simp] theorem pgy_tbl : (pgy ctx zs st).tbl = tbl := rfl
@[simp] theorem pgy_ctx : (pgy ctx zs st).ctx = ctx := rfl
@[simp] theorem pgy_keys : (pgy ctx zs st).keys = [98] := rfl
@[simp] theorem pgy_inl (k d : Nat) (σ : St) (a : List V) : (pgy ctx zs st).inl k d σ a = none := rfl
@[simp] theorem pgy_fz (k : Nat) : (pgy ctx zs st).fz k = false := rfl
@[simp] theorem pgy_yl : (pgy ctx zs st).yl = some (some zs, st) := rfl
@[simp] theorem pgy_eqs : (pgy ctx zs st).eqs = [(80, (8, true)), (98, (2, false))] := rfl
theorem toky : TOk (pgy ctx zs st) := ⟨(tok ctx).tt, (tok ctx).ee, (tok ctx).kk, (tok ctx).zv⟩
theorem ctxy (hC : CtxOk (pg ctx)) : CtxOk (pgy ctx zs st) := ⟨hC.c, hC.b, hC.s, hC.l, hC.i, hC.t⟩
end
/-- what is captured: the trade, the curer, the country -/
def caps84 (t : Trade) (i : Nat) (th : Int) : List FV := [.pt (cellsT t) 0, .pt [.int .i64 i] 0, .pt [.int .i64 th] 0]
theorem v84 (ctx : Ctx) (hC : CtxOk (pg ctx)) (t : Trade) (i : Nat) (hi : i < t.cu.length) (hl : (listAt t i).length < 2^62) (th : Int) (N : Nat) (hN : N ≤ (before th (listAt t i)).length) (st : Option Nat) (hst : (st = none ∧ N = (before th (listAt t i)).length) ∨ ∃ m, st = some m ∧ N = m + 1) (q : Bool) :
    ItOK Try.prog 84 ((caps84 t i th).map fun c => (q, c)) ((outs1 (before th (listAt t i))).take N) st := by
  refine it_of_ev (G := pgy ctx _ st) (toky ctx _ st) (ctxy ctx _ st hC) mixed rfl Try.func84 T84 L84 (by simp [Try.ntmps84, caps84]) ⟨_, rfl, ?_⟩
  have hg : t.cu[i].2 = listAt t i := (listAt_get hi).symm
  have hbs := before_step th (listAt t i)
  simp only [Try.ntmps84, Try.results84, initStY, initEnv, caps84, cellsT, List.map_cons, List.map_nil]
  generalize listAt t i = l at *
  have hol : (outs1 (before th l)).length = (before th l).length := by simp [outs1]
  have hoz : ∀ j : Nat, (outs1 (before th l))[j]? = ((before th l)[j]?).map (fun c => [.int .i64 c]) := fun j => by simp [outs1]
  generalize before th l = P at *
  generalize outs1 P = zs at *
  have hzl : (zs.take N).length = N := by rw [List.length_take, hol]; omega
  refine ev_seq (ev_reg (by simp [hi, rowF, hg]; rfl) ?_)  -- region 0
  refine ev_block ?_  -- 0
  refine ev_loop (fun j : Nat => ({ env := [(0, V.yv), (3, V.fv q (FV.pt [FV.int IntKind.i64 th] 0)), (12, V.fv q (FV.sl t.cu[i].fst 1 (ints l))), (13, V.fv false (FV.int IntKind.i64 ↑l.length)), (14, V.fv false (FV.int IntKind.i64 j))], blk := [], tr := zs.take j } : St)) (fun j => l.length - j) (fun j => j ≤ l.length ∧ j ≤ N ∧ ∀ m, st = some m → j ≤ m) 0 (by simp) (by simp) (by simp [R]; omega) (fun j hj => ?_)
  obtain ⟨hjl, hjN, hjm⟩ := hj
  have hjP : j ≤ P.length := by omega
  obtain ⟨b1, b2⟩ := hbs j hjP
  have htl : (zs.take j).length = j := by rw [List.length_take, hol]; omega
  -- where nothing comes any more
  have hstop : P.length = j → j = N := fun h => by omega
  refine ev_seq (ev_reg (by simp; rfl) ?_)  -- region 1
  refine ev_seq (ev_cond rfl (fun hb => ?_) (fun hb => ?_))  -- 15
  · simp at hb
    obtain ⟨c1, c2⟩ := b1 hb hb
    have hw1 : IntKind.i64.wrap ((j : Int) + 1) = (j + 1 : Nat) := wrap_nat (n := j + 1) (by omega)
    refine ev_skip ?_
    refine ev_seq (ev_block ?_)  -- 1
    refine ev_seq (ev_reg (by simp [hb]; rfl) ?_)  -- region 2
    by_cases he : l[j] = th
    · have hjn := hstop (c1 he)
      have heq : (l[j] == th) = true := by simp [he]
      refine ev_seq (ev_reg (by simp [heq]; rfl) ?_)  -- region 3
      refine ev_cond rfl (fun hb => ?_) (fun hb => by simp at hb)  -- 26
      refine ev_ret ?_
      subst hjn
      simp [hzl, htl]
    · obtain ⟨d1, d2⟩ := c2 he
      have heq : (l[j] == th) = false := by simp [he]
      have hjN2 : j < N := by
        rcases hst with ⟨_, h⟩ | ⟨m, _, h⟩
        · omega
        · rename_i hm; have := hjm m hm; omega
      have hzj : zs[j]? = some [.int .i64 l[j]] := by rw [hoz, d2]; rfl
      have hmin : min j zs.length = j := by rw [hol]; omega
      have htk : zs.take (j + 1) = zs.take j ++ [[.int .i64 l[j]]] := by rw [List.take_add_one, hzj]; rfl
      obtain ⟨A, hA⟩ : ∃ A, ans st j = A := ⟨_, rfl⟩
      simp only [ans] at hA
      refine ev_seq (ev_reg (σ' := { env := [(0, V.yv), (3, V.fv q (FV.pt [FV.int IntKind.i64 th] 0)), (12, V.fv q (FV.sl t.cu[i].fst 1 (ints l))), (13, V.fv false (FV.int IntKind.i64 ↑l.length)), (14, V.fv false (FV.int IntKind.i64 j)), (26, V.fv false (.bool (!A)))], blk := [], tr := zs.take (j + 1) }) (by simp [heq, hmin, hjN2, hzj, hA, htk]) ?_)  -- region 3
      cases A with
      | false =>
        refine ev_cond rfl (fun hb => ?_) (fun hb => by simp at hb)  -- 26
        refine ev_ret ?_
        have hjn : j + 1 = N := by
          rcases hst with ⟨h1, _⟩ | ⟨m, h1, h2⟩
          · subst h1; simp at hA
          · subst h1; simp at hA; omega
        subst hjn
        have hmin2 : min (j + 1) zs.length = j + 1 := by rw [hol]; omega
        simp [hmin2]
      | true =>
        refine ev_cond rfl (fun hb => by simp at hb) (fun hb => ?_)  -- 26
        refine ev_skip ?_
        refine ev_reg (by simp [hw1]; rfl) ?_  -- region 4
        refine ⟨j + 1, by simp, ⟨by omega, by omega, fun m hm => ?_⟩, by omega⟩
        have h3 := hjm m hm
        subst hm
        simp at hA
        omega
  · simp at hb
    have hjn := hstop (b2 hb)
    refine ev_exit ?_  -- 0
    subst hjn
    simp [hzl, htl]
theorem v69 (ctx : Ctx) (hC : CtxOk (pg ctx)) (t : Trade) (i : Nat) (th : Int) : Valid Try.prog 69 [(false, tradeF t), (false, .int .i64 i), (false, .int .i64 th)] [.fv (.fn (.func 84) [] (caps84 t i th))] := by
  refine valid_of_ev (G := pg ctx) (tok ctx) hC mixed Try.func69 T69 L69 (by simp [Try.ntmps69]) ⟨_, rfl, ?_⟩
  simp only [Try.ntmps69, Try.results69, initSt, initEnv, tradeF, cellsT, caps84]
  refine ev_seq (ev_reg (by simp [boxA, vcells]; rfl) ?_)  -- region 0
  refine ev_seq (ev_reg (by simp; rfl) ?_)  -- region 1
  refine ev_ret ?_
  simp
end Go.Proofs.Ytoafhoihigfllaa.E
namespace Go.Proofs.Ytoafhoihigfllaa.E
open Go Go.RowKit
set_option linter.unusedVariables false
set_option linter.unusedSimpArgs false
/-- what has been asked -/
def askF (l : List (Nat × Nat)) : List (FV × FV) := l.map fun p => (.agg [.int .i64 p.1, .int .i64 p.2], .bool true)
open Classical in
noncomputable def itr84 (t : Trade) : FuncId → List (Bool × FV) → Option (List (List FV)) := fun k caps =>
  if h : k = 84 ∧ ∃ y : Nat × Int × Bool, y.1 < t.cu.length ∧ caps = (caps84 t y.1 y.2.1).map fun c => (y.2.2, c) then some (outs1 (before (Classical.choose h.2).2.1 (listAt t (Classical.choose h.2).1))) else none
theorem itr84_hit (t : Trade) (i : Nat) (hi : i < t.cu.length) (th : Int) (q : Bool) : itr84 t 84 ((caps84 t i th).map fun c => (q, c)) = some (outs1 (before th (listAt t i))) := by
  unfold itr84
  have h : 84 = 84 ∧ ∃ y : Nat × Int × Bool, y.1 < t.cu.length ∧ ((caps84 t i th).map fun c => (q, c)) = (caps84 t y.1 y.2.1).map fun c => (y.2.2, c) := ⟨rfl, (i, th, q), hi, rfl⟩
  rw [dif_pos h]
  have hs := (Classical.choose_spec h.2).2
  generalize Classical.choose h.2 = y at hs ⊢
  simp only [caps84, List.map_cons, List.map_nil, List.cons.injEq, Prod.mk.injEq, FV.pt.injEq, FV.int.injEq, and_true, true_and, Int.natCast_inj] at hs
  rw [← hs.2.1.2, ← hs.2.2.2]
noncomputable def pgr (ctx : Ctx) (t : Trade) : Pg := { pg ctx with itr := itr84 t, its := fun k caps _ => (itr84 t k caps).isSome }
section
variable (ctx : Ctx) (t : Trade)
@[simp] theorem pgr_tbl : (pgr ctx t).tbl = tbl := rfl
@[simp] theorem pgr_ctx : (pgr ctx t).ctx = ctx := rfl
@[simp] theorem pgr_keys : (pgr ctx t).keys = [98] := rfl
@[simp] theorem pgr_inl (k d : Nat) (σ : St) (a : List V) : (pgr ctx t).inl k d σ a = none := rfl
@[simp] theorem pgr_fz (k : Nat) : (pgr ctx t).fz k = false := rfl
@[simp] theorem pgr_yl : (pgr ctx t).yl = none := rfl
@[simp] theorem pgr_eqs : (pgr ctx t).eqs = [(80, (8, true)), (98, (2, false))] := rfl
theorem tokr : TOk (pgr ctx t) := ⟨(tok ctx).tt, (tok ctx).ee, (tok ctx).kk, (tok ctx).zv⟩
theorem enters84 : Enters Try.prog 84 := ⟨_, Try.func84, rfl, by kernel_rfl⟩
theorem ctxr (hC : CtxOk (pg ctx)) (hl : ∀ i, (listAt t i).length < 2^62) : CtxOk (pgr ctx t) := by
  have key : ∀ k caps xs, itr84 t k caps = some xs → k = 84 ∧ ∃ i th q, i < t.cu.length ∧ caps = ((caps84 t i th).map fun c => (q, c)) ∧ xs = outs1 (before th (listAt t i)) := fun k caps xs h => by
    unfold itr84 at h
    split at h
    · rename_i hc
      simp only [Option.some.injEq] at h
      have hs := Classical.choose_spec hc.2
      exact ⟨hc.1, _, _, _, hs.1, hs.2, h.symm⟩
    · cases h
  have hol : ∀ l : List Int, (outs1 l).length = l.length := fun l => by simp [outs1]
  refine ⟨hC.c, hC.b, hC.s, hC.l, fun k caps xs h => ?_, fun k caps xs i h _ hi => ?_⟩
  · obtain ⟨rfl, i, th, q, h1, rfl, rfl⟩ := key k caps xs h
    refine ⟨?_, enters84⟩
    have := v84 ctx hC t i h1 (hl i) th _ (Nat.le_refl _) none (.inl ⟨rfl, rfl⟩) q
    rw [List.take_of_length_le (by rw [hol]; exact Nat.le_refl _)] at this
    exact this
  · obtain ⟨rfl, j, th, q, h1, rfl, rfl⟩ := key k caps xs h
    rw [hol] at hi
    exact v84 ctx hC t j h1 (hl j) th (i + 1) hi (some i) (.inr ⟨i, rfl, rfl⟩) q
end
def pairF (i c : Nat) : FV := .agg [.int .i64 i, .int .i64 c]
theorem kmatch_pair (ctx : Ctx) (t : Trade) (i c j d : Nat) : kmatch (pgr ctx t) 98 (pairF i c) (pairF j d) = some (decide ((i, c) = (j, d))) := by
  have : kmatch (pgr ctx t) 98 (pairF i c) (pairF j d) = some (((i : Int) == (j : Int)) && ((c : Int) == (d : Int))) := by
    simp [pairF, kmatch, fscals, fscal]
  rw [this, Option.some.injEq, Bool.eq_iff_iff]
  simp only [Bool.and_eq_true, beq_iff_eq, decide_eq_true_eq, Prod.mk.injEq]
  omega
theorem key_pair (ctx : Ctx) (t : Trade) (i c : Nat) : keyOK (pgr ctx t) 98 (pairF i c) = true := by
  unfold keyOK
  rw [kmatch_pair]
  simp
theorem find_ask (ctx : Ctx) (t : Trade) (i c : Nat) : ∀ (l : List (Nat × Nat)) (k : Nat), if (i, c) ∈ l then ∃ j, findF (kmatch (pgr ctx t) 98 (pairF i c)) k (askF l) = some (some (j, .bool true)) else findF (kmatch (pgr ctx t) 98 (pairF i c)) k (askF l) = some none
  | [], k => by simp [askF, findF]
  | (j, d) :: l, k => by
    have ih := find_ask ctx t i c l (k + 1)
    have e : askF ((j, d) :: l) = (pairF j d, .bool true) :: askF l := rfl
    rw [e, findF, kmatch_pair]
    by_cases h : (i, c) = (j, d)
    · rw [decide_eq_true h, if_pos (by rw [h]; exact List.mem_cons_self)]
      exact ⟨k, rfl⟩
    · rw [decide_eq_false h]
      by_cases h2 : (i, c) ∈ l
      · rw [if_pos (List.mem_cons_of_mem _ h2)]
        rw [if_pos h2] at ih
        exact ih
      · rw [if_neg (fun h3 => (List.mem_cons.mp h3).elim h h2)]
        rw [if_neg h2] at ih
        exact ih
def fillN (n j : Nat) : List Int := (List.range n).map fun i => if i < j then -1 else 0
@[simp] theorem fillN_length (n j : Nat) : (fillN n j).length = n := by simp [fillN]
theorem fillN_set {n j : Nat} (h : j < n) : (fillN n j).set j (-1) = fillN n (j + 1) := by
  apply List.ext_getElem
  · simp
  · intro i h1 h2
    rw [List.getElem_set]
    simp only [fillN, List.getElem_map, List.getElem_range]
    split
    · rename_i e; subst e; simp
    · rename_i e
      by_cases c : i < j
      · rw [if_pos c, if_pos (by omega)]
      · rw [if_neg c, if_neg (by omega)]
theorem fillN_zero (n : Nat) : List.replicate n (FV.int .i64 0) = ints (fillN n 0) := by
  rw [ints_zero]; congr 1
  apply List.ext_getElem
  · simp
  · intro i h1 h2; simp [fillN]
theorem fillN_all (n : Nat) : fillN n n = List.replicate n (-1) := by
  apply List.ext_getElem
  · simp
  · intro i h1 h2
    simp at h1
    simp [fillN, h1]
theorem worst_mem {t : Trade} {c : Nat} {l : List Nat} (h : 0 < l.length) : worstN t c l ∈ l := by
  have key : ∀ (m : List Nat) (w : Nat), m.foldl (fun w k => if rankN t c w < rankN t c k then k else w) w = w ∨ m.foldl (fun w k => if rankN t c w < rankN t c k then k else w) w ∈ m := by
    intro m
    induction m with
    | nil => exact fun w => .inl rfl
    | cons x m ih =>
      intro w
      simp only [List.foldl_cons]
      by_cases h : rankN t c w < rankN t c x
      · rw [if_pos h]
        rcases ih x with h2 | h2
        · rw [h2]; exact .inr List.mem_cons_self
        · exact .inr (List.mem_cons_of_mem _ h2)
      · rw [if_neg h]
        rcases ih w with h2 | h2
        · exact .inl h2
        · exact .inr (List.mem_cons_of_mem _ h2)
  rw [worstN]
  rcases key l (l.headD 0) with h2 | h2
  · rw [h2]
    cases l with
    | nil => simp at h
    | cons x l => exact List.mem_cons_self
  · exact h2
/-- the deals behind a curer's being taken -/
def newD (t : Trade) (deals : List Int) (i c : Nat) : List Int :=
  (if ((sellN deals c).length : Int) = roomAt t c then deals.set (worstN t c (sellN deals c)) (-1) else deals).set i c
/-- what the program can come to -/
inductive ReachT (t : Trade) : List (Nat × Nat) → List Int → Prop
  | init : ReachT t [] (List.replicate t.cu.length (-1))
  | no {a : List (Nat × Nat)} {d : List Int} (h : ReachT t a d) (i k c : Nat) (hi : i < t.cu.length) (hd : d.getD i 0 < 0) (hk : (listAt t i)[k]? = some (c : Int)) (hpre : ∀ j, j < k → ∀ x : Nat, (listAt t i)[j]? = some (x : Int) → (i, x) ∈ a) (hn : (i, c) ∉ a) (ht : takesB t d i c = false) : ReachT t (a ++ [(i, c)]) d
  | yes {a : List (Nat × Nat)} {d : List Int} (h : ReachT t a d) (i k c : Nat) (hi : i < t.cu.length) (hd : d.getD i 0 < 0) (hk : (listAt t i)[k]? = some (c : Int)) (hpre : ∀ j, j < k → ∀ x : Nat, (listAt t i)[j]? = some (x : Int) → (i, x) ∈ a) (hn : (i, c) ∉ a) (ht : takesB t d i c = true) : ReachT t (a ++ [(i, c)]) (newD t d i c)
theorem newD_length (t : Trade) (deals : List Int) (i c : Nat) : (newD t deals i c).length = deals.length := by
  unfold newD; split <;> simp
theorem reach_length {t : Trade} {a : List (Nat × Nat)} {d : List Int} (h : ReachT t a d) : d.length = t.cu.length := by
  induction h with
  | init => simp
  | no h _ _ _ _ _ _ _ _ _ ih => exact ih
  | yes h _ _ _ _ _ _ _ _ _ ih => rw [newD_length, ih]
/-- has a curer asked all that they can ask -/
def AllAsked (t : Trade) (a : List (Nat × Nat)) (i : Nat) : Prop := ∀ j : Nat, ∀ x : Nat, (listAt t i)[j]? = some (x : Int) → (i, x) ∈ a
theorem AllAsked.app {t : Trade} {a : List (Nat × Nat)} {i : Nat} (h : AllAsked t a i) (p : Nat × Nat) : AllAsked t (a ++ [p]) i := fun j x hx => List.mem_append_left _ (h j x hx)
/-- the program's end -/
def DoneT (t : Trade) (a : List (Nat × Nat)) (d : List Int) : Prop := ∀ i, i < t.cu.length → d.getD i 0 < 0 → AllAsked t a i
/-- all that can be asked -/
def pairsT (t : Trade) : List (Nat × Nat) := (List.range t.cu.length).flatMap fun i => (listAt t i).map fun c => (i, c.toNat)
theorem mem_pairsT {t : Trade} {i k c : Nat} (hi : i < t.cu.length) (hk : (listAt t i)[k]? = some (c : Int)) : (i, c) ∈ pairsT t := by
  simp only [pairsT, List.mem_flatMap, List.mem_range, List.mem_map, Prod.mk.injEq]
  exact ⟨i, hi, c, List.mem_of_getElem? hk, rfl, by simp⟩
def leftN (t : Trade) (a : List (Nat × Nat)) : Nat := ((pairsT t).filter fun p => decide (p ∉ a)).length
theorem left_lt {t : Trade} {a : List (Nat × Nat)} {p : Nat × Nat} (h1 : p ∈ pairsT t) (h2 : p ∉ a) : leftN t (a ++ [p]) < leftN t a := by
  unfold leftN
  generalize pairsT t = l at h1
  have le : ∀ l : List (Nat × Nat), (l.filter fun q => decide (q ∉ a ++ [p])).length ≤ (l.filter fun q => decide (q ∉ a)).length := by
    intro l
    induction l with
    | nil => simp
    | cons x l ih =>
      by_cases h : x ∈ a
      · simp [h, ih] at ih ⊢; exact ih
      · by_cases h3 : x = p
        · subst h3
          simp [h] at ih ⊢; omega
        · simp [h, h3] at ih ⊢; exact ih
  induction l with
  | nil => simp at h1
  | cons x l ih =>
    have := le l
    by_cases h3 : x = p
    · subst h3
      simp [h2] at this ⊢; omega
    · have h4 : p ∈ l := by
        rcases List.mem_cons.mp h1 with h5 | h5
        · exact absurd h5.symm h3
        · exact h5
      have := ih h4
      by_cases h : x ∈ a
      · simp [h] at this ⊢; exact this
      · simp [h, h3] at this ⊢; exact this
/-- a trade as it is checked -/
structure TradeOk (t : Trade) : Prop where
  n : 1 ≤ t.cu.length ∧ t.cu.length ≤ 8
  m : 1 ≤ t.co.length ∧ t.co.length ≤ 5
  cu : ∀ i, i < t.cu.length → (listAt t i).Nodup ∧ ∀ x ∈ listAt t i, 0 ≤ x ∧ x < t.co.length
  room : ∀ c, c < t.co.length → 0 ≤ roomAt t c ∧ roomAt t c ≤ 8
  likes : ∀ c, c < t.co.length → IsOrd (likesAt t c) t.cu.length
end Go.Proofs.Ytoafhoihigfllaa.E
