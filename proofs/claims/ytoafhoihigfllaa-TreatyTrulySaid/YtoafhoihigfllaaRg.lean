/-
  The chapter of the treaty: deals by the program: the walk. Conditions: none.
-/
import Derived.Test.YtoafhoihigfllaaRe
namespace Go.Proofs.Ytoafhoihigfllaa.E
open Go Go.RowKit
set_option linter.unusedVariables false
set_option linter.unusedSimpArgs false
def L34x : Live := [(0, ([1, 2, 3], [])), (1, ([1, 2, 3, 4], [])), (2, ([1, 2, 3, 4, 18], [])), (3, ([2, 3], [])), (4, ([2, 3, 5], [])), (5, ([2, 3, 5, 6], [])), (6, ([2, 3, 5, 6, 28, 29], [])), (7, ([2, 3, 5, 6, 28, 29, 30], [])), (8, ([2, 3, 5, 6, 7, 28, 29], [])), (9, ([2, 3, 5, 6, 28, 29], [])), (10, ([2, 3, 5, 6, 28, 29], [])), (11, ([2, 3, 5, 6, 8], [])), (12, ([2, 3, 5, 6, 8, 9], [])), (13, ([2, 3, 5, 6, 8, 9, 37], [])), (14, ([2, 3, 5, 6, 8, 9], [])), (15, ([2, 3, 5, 6, 8, 9, 39, 40], [])), (16, ([2, 3, 5, 6, 8, 9, 39, 40, 41], [])), (17, ([2, 3, 5, 6, 8, 9, 10, 39, 40], [])), (18, ([2, 3, 5, 6, 8, 9, 10, 39, 40, 47], [])), (19, ([2, 3, 5, 6, 8, 9, 10, 39, 40, 50], [])), (20, ([2, 3, 5, 6, 8, 9, 10, 11, 39, 40, 50], [])), (21, ([2, 3, 5, 6, 8, 9, 10, 11, 12, 39, 40, 50], [])), (22, ([2, 3, 5, 6, 8, 9, 10, 11, 12, 39, 40, 50, 57], [])), (23, ([2, 3, 5, 6, 8, 9, 10, 11, 12, 39, 40, 50], [])), (24, ([2, 3, 5, 6, 8, 9, 10, 11, 12, 39, 40, 50, 64], [])), (25, ([2, 3, 5, 6, 8, 9, 10, 11, 12, 13, 39, 40, 50], [])), (26, ([2, 3, 5, 6, 8, 9, 10, 11, 12, 13, 39, 40, 50, 77], [])), (27, ([2, 3, 5, 6, 8, 9, 10, 11, 12, 14, 39, 40, 50], [])), (28, ([2, 3, 5, 6, 8, 9, 10, 11, 14, 39, 40, 50, 86], [])), (29, ([2, 3, 5, 6, 8, 9, 10, 11, 39, 40, 50], [])), (30, ([2, 3, 5, 6, 8, 9, 39, 40, 50], [])), (31, ([2, 3, 5, 6, 8, 9, 39, 40, 50], [])), (32, ([2, 3, 5, 6, 8, 9, 39, 40], [])), (33, ([2, 3, 5, 6, 8, 96], [])), (34, ([2, 3, 5, 6, 8, 9], [])), (35, ([2, 3], []))]
@[simp] theorem kL34x_0 : kof L34x 0 = ([1, 2, 3], []) := rfl
@[simp] theorem kL34x_1 : kof L34x 1 = ([1, 2, 3, 4], []) := rfl
@[simp] theorem kL34x_2 : kof L34x 2 = ([1, 2, 3, 4, 18], []) := rfl
@[simp] theorem kL34x_3 : kof L34x 3 = ([2, 3], []) := rfl
@[simp] theorem kL34x_4 : kof L34x 4 = ([2, 3, 5], []) := rfl
@[simp] theorem kL34x_5 : kof L34x 5 = ([2, 3, 5, 6], []) := rfl
@[simp] theorem kL34x_6 : kof L34x 6 = ([2, 3, 5, 6, 28, 29], []) := rfl
@[simp] theorem kL34x_7 : kof L34x 7 = ([2, 3, 5, 6, 28, 29, 30], []) := rfl
@[simp] theorem kL34x_8 : kof L34x 8 = ([2, 3, 5, 6, 7, 28, 29], []) := rfl
@[simp] theorem kL34x_9 : kof L34x 9 = ([2, 3, 5, 6, 28, 29], []) := rfl
@[simp] theorem kL34x_10 : kof L34x 10 = ([2, 3, 5, 6, 28, 29], []) := rfl
@[simp] theorem kL34x_11 : kof L34x 11 = ([2, 3, 5, 6, 8], []) := rfl
@[simp] theorem kL34x_12 : kof L34x 12 = ([2, 3, 5, 6, 8, 9], []) := rfl
@[simp] theorem kL34x_13 : kof L34x 13 = ([2, 3, 5, 6, 8, 9, 37], []) := rfl
@[simp] theorem kL34x_14 : kof L34x 14 = ([2, 3, 5, 6, 8, 9], []) := rfl
@[simp] theorem kL34x_15 : kof L34x 15 = ([2, 3, 5, 6, 8, 9, 39, 40], []) := rfl
@[simp] theorem kL34x_16 : kof L34x 16 = ([2, 3, 5, 6, 8, 9, 39, 40, 41], []) := rfl
@[simp] theorem kL34x_17 : kof L34x 17 = ([2, 3, 5, 6, 8, 9, 10, 39, 40], []) := rfl
@[simp] theorem kL34x_18 : kof L34x 18 = ([2, 3, 5, 6, 8, 9, 10, 39, 40, 47], []) := rfl
@[simp] theorem kL34x_19 : kof L34x 19 = ([2, 3, 5, 6, 8, 9, 10, 39, 40, 50], []) := rfl
@[simp] theorem kL34x_20 : kof L34x 20 = ([2, 3, 5, 6, 8, 9, 10, 11, 39, 40, 50], []) := rfl
@[simp] theorem kL34x_21 : kof L34x 21 = ([2, 3, 5, 6, 8, 9, 10, 11, 12, 39, 40, 50], []) := rfl
@[simp] theorem kL34x_22 : kof L34x 22 = ([2, 3, 5, 6, 8, 9, 10, 11, 12, 39, 40, 50, 57], []) := rfl
@[simp] theorem kL34x_23 : kof L34x 23 = ([2, 3, 5, 6, 8, 9, 10, 11, 12, 39, 40, 50], []) := rfl
@[simp] theorem kL34x_24 : kof L34x 24 = ([2, 3, 5, 6, 8, 9, 10, 11, 12, 39, 40, 50, 64], []) := rfl
@[simp] theorem kL34x_25 : kof L34x 25 = ([2, 3, 5, 6, 8, 9, 10, 11, 12, 13, 39, 40, 50], []) := rfl
@[simp] theorem kL34x_26 : kof L34x 26 = ([2, 3, 5, 6, 8, 9, 10, 11, 12, 13, 39, 40, 50, 77], []) := rfl
@[simp] theorem kL34x_27 : kof L34x 27 = ([2, 3, 5, 6, 8, 9, 10, 11, 12, 14, 39, 40, 50], []) := rfl
@[simp] theorem kL34x_28 : kof L34x 28 = ([2, 3, 5, 6, 8, 9, 10, 11, 14, 39, 40, 50, 86], []) := rfl
@[simp] theorem kL34x_29 : kof L34x 29 = ([2, 3, 5, 6, 8, 9, 10, 11, 39, 40, 50], []) := rfl
@[simp] theorem kL34x_30 : kof L34x 30 = ([2, 3, 5, 6, 8, 9, 39, 40, 50], []) := rfl
@[simp] theorem kL34x_31 : kof L34x 31 = ([2, 3, 5, 6, 8, 9, 39, 40, 50], []) := rfl
@[simp] theorem kL34x_32 : kof L34x 32 = ([2, 3, 5, 6, 8, 9, 39, 40], []) := rfl
@[simp] theorem kL34x_33 : kof L34x 33 = ([2, 3, 5, 6, 8, 96], []) := rfl
@[simp] theorem kL34x_34 : kof L34x 34 = ([2, 3, 5, 6, 8, 9], []) := rfl
@[simp] theorem kL34x_35 : kof L34x 35 = ([2, 3], []) := rfl
def H32 (ctx : Ctx) (t : Trade) (code : Int) : Prop := ctx 32 [(false, tradeF t)] = some [.fv (.int .i64 code)]
def H69 (ctx : Ctx) (t : Trade) : Prop := ∀ (i : Nat) (th : Int), i < t.cu.length → ctx 69 [(false, tradeF t), (false, .int .i64 i), (false, .int .i64 th)] = some [.fv (.fn (.func 84) [] (caps84 t i th))]
def H70 (ctx : Ctx) (t : Trade) (n : Nat) : Prop := ∀ (deals : List Int) (k c : Nat), deals.length = n → k < n → c < t.co.length → ∀ (r2 r3 cl : Bool), ctx 70 [(false, tradeF t), (r2, .sl cl 1 (ints deals)), (r3, .agg [.int .i64 k, .int .i64 c])] = some [.fv (.bool (takesB t deals k c))]
theorem before_none (th : Int) : ∀ l : List Int, th ∉ l → before th l = l
  | [], _ => rfl
  | x :: r, h => by
    rw [before, if_neg (fun e => h (by rw [e]; exact List.mem_cons_self)), before_none th r (fun h2 => h (List.mem_cons_of_mem _ h2))]
theorem left_le (t : Trade) (a : List (Nat × Nat)) : leftN t a ≤ (pairsT t).length := List.length_filter_le _ _
theorem v34 (ctx : Ctx) (hC : CtxOk (pg ctx)) (t : Trade) (hl : ∀ i, (listAt t i).length < 2^62) (h32 : H32 ctx t 0) (hT : TradeOk t) (h69 : H69 ctx t) (h70 : H70 ctx t t.cu.length) (h68 : H68 ctx) (h72 : H72 ctx t t.cu.length) (hlp : (pairsT t).length < 2^62) (R0 : List Int) (hR0 : ∀ a d, ReachT t a d → DoneT t a d → d = R0) :
    Valid Try.prog 34 [(false, tradeF t)] [.us 1 (ints R0), .fv (.int .i64 0)] := by
  refine valid_of_ev (G := pgr ctx t) (tokr ctx t) (ctxr ctx t hC hl) mixed Try.func34 T34 L34x (by simp [Try.ntmps34]) ⟨_, rfl, ?_⟩
  obtain ⟨hn, hm, hcu, hrooms, -⟩ := hT
  unfold H32 at h32
  unfold H69 at h69
  unfold H70 at h70
  unfold H72 at h72
  simp only [tradeF, cellsT] at h32 h69 h70 h72
  simp only [Try.ntmps34, Try.results34, initSt, initEnv, tradeF, cellsT]
  have hb1 : 8 * (t.cu.length : Int) ≤ 281474976710656 := by omega
  have hb2 : (t.cu.length : Int) ≤ 9223372036854775807 := by omega
  refine ev_seq (ev_reg (by simp [boxA, vcells]; rfl) ?_)  -- region 0
  refine ev_seq (ev_seq (ev_reg (by simp [h32]; rfl) ?_))  -- region 1
  refine ev_seq (ev_reg (by simp; rfl) ?_)  -- region 2
  refine ev_cond rfl (fun hb => by simp at hb) (fun hb => ?_)  -- 18
  refine ev_skip ?_
  refine ev_seq (ev_reg (by simp; rfl) ?_)  -- region 4
  refine ev_seq (ev_reg (by simp [hb1, hb2, fillN_zero]; rfl) ?_)  -- region 5
  refine ev_seq (ev_seq (ev_reg (by simp; rfl) ?_))  -- region 6
  refine ev_block ?_  -- 0
  refine ev_loop (fun j : Nat => ({ env := [(2, V.own 2 0 0), (3, V.fv false (FV.int IntKind.i64 0)), (5, V.ptr 5 0), (6, V.ptr 6 0), (28, V.fv false (FV.int IntKind.i64 ↑t.cu.length)), (29, V.fv false (FV.int IntKind.i64 j))], blk := [(2, Blk.arr 1 []), (5, Blk.box [V.fv false (FV.sl t.fc 1 (rowsF t.cu)), V.fv false (FV.sl t.fd 2 (ctrysF t.co))]), (6, Blk.box [V.own 26 0 t.cu.length]), (26, Blk.arr 1 (ints (fillN t.cu.length j)))] } : St)) (fun j => t.cu.length - j) (fun j => j ≤ t.cu.length) 0 rfl (by simp) (by simp [R]; omega) (fun j hj => ?_)
  refine ev_seq (ev_reg (by simp; rfl) ?_)  -- region 7
  refine ev_seq (ev_cond rfl (fun hb => ?_) (fun hb => ?_))  -- 30
  · simp at hb
    have hw1 : IntKind.i64.wrap ((j : Int) + 1) = (j + 1 : Nat) := wrap_nat (n := j + 1) (by omega)
    obtain ⟨ox, hox⟩ : ∃ ox, (fillN t.cu.length j)[j]? = some ox := ⟨_, List.getElem?_eq_getElem (by simpa using hb)⟩
    have hset := fillN_set hb
    refine ev_skip ?_
    refine ev_seq (ev_block ?_)  -- 1
    refine ev_seq (ev_reg (by simp; rfl) ?_)  -- region 8
    refine ev_reg (by simp [hb, hox]; rfl) ?_  -- region 9
    rw [hset]
    refine ev_reg (by simp [hw1]; rfl) ?_  -- region 10
    exact ⟨j + 1, by simp, by omega, by omega⟩
  · simp at hb
    have hjn : j = t.cu.length := by omega
    subst hjn
    rw [fillN_all]
    refine ev_exit ?_  -- 0
    refine ev_seq (ev_reg (by simp; rfl) ?_)  -- region 11
    refine ev_seq (ev_seq (ev_reg (by simp; rfl) ?_))  -- region 12
    refine ev_block ?_  -- 2
    refine ev_loop (fun y : List (Nat × Nat) × List Int × Bool => ({ env := [(2, V.own 2 0 0), (3, V.fv false (FV.int IntKind.i64 0)), (5, V.ptr 5 0), (6, V.ptr 6 0), (8, V.ptr 8 0), (9, V.ptr 9 0)], blk := [(2, Blk.arr 1 []), (5, Blk.box [V.fv false (FV.sl t.fc 1 (rowsF t.cu)), V.fv false (FV.sl t.fd 2 (ctrysF t.co))]), (6, Blk.box [V.own 26 0 t.cu.length]), (8, Blk.box [V.map 36]), (9, Blk.box [V.fv false (FV.bool y.2.2)]), (26, Blk.arr 1 (ints y.2.1)), (36, Blk.mp (askF y.1))] } : St)) (fun y => if y.2.2 then leftN t y.1 + 1 else 0) (fun y => ReachT t y.1 y.2.1 ∧ (y.2.2 = false → DoneT t y.1 y.2.1)) ([], List.replicate t.cu.length (-1), true) (by simp [askF]) ⟨ReachT.init, by simp⟩ (by have := left_le t []; simp only [R, if_true]; omega) (fun y hy => ?_)
    obtain ⟨a0, d0, ag⟩ := y
    obtain ⟨hreach, hdone⟩ := hy
    simp only at hreach hdone
    refine ev_seq (ev_seq (ev_reg (by simp; rfl) ?_))  -- region 13
    cases ag with
    | false =>
      refine ev_cond rfl (fun hb => by simp at hb) (fun hb => ?_)  -- 37
      refine ev_exit ?_  -- 2
      have hd := hR0 a0 d0 hreach (hdone rfl)
      have hdl := reach_length hreach
      refine ev_seq (ev_reg (by simp [hdl]; rfl) ?_)  -- region 35
      refine ev_ret ?_
      rw [← hd]
      simp [hdl]
    | true =>
      refine ev_cond rfl (fun hb => ?_) (fun hb => by simp at hb)  -- 37
      refine ev_skip ?_
      refine ev_seq (ev_block ?_)  -- 3
      refine ev_seq (ev_reg (by simp; rfl) ?_)  -- region 14
      refine ev_seq (ev_reg (by simp; rfl) ?_)  -- region 15
      refine ev_block ?_  -- 4
      refine ev_loop (fun y : Nat × List (Nat × Nat) × List Int × Bool => ({ env := [(2, V.own 2 0 0), (3, V.fv false (FV.int IntKind.i64 0)), (5, V.ptr 5 0), (6, V.ptr 6 0), (8, V.ptr 8 0), (9, V.ptr 9 0), (39, V.fv false (FV.int .i64 t.cu.length)), (40, V.fv false (FV.int .i64 y.1))], blk := [(2, Blk.arr 1 []), (5, Blk.box [V.fv false (FV.sl t.fc 1 (rowsF t.cu)), V.fv false (FV.sl t.fd 2 (ctrysF t.co))]), (6, Blk.box [V.own 26 0 t.cu.length]), (8, Blk.box [V.map 36]), (9, Blk.box [V.fv false (FV.bool y.2.2.2)]), (26, Blk.arr 1 (ints y.2.2.1)), (36, Blk.mp (askF y.2.1))] } : St)) (fun y => t.cu.length - y.1) (fun y => y.1 ≤ t.cu.length ∧ ReachT t y.2.1 y.2.2.1 ∧ (y.2.2.2 = false → ∀ i', i' < y.1 → y.2.2.1.getD i' 0 < 0 → AllAsked t y.2.1 i') ∧ leftN t y.2.1 ≤ leftN t a0 ∧ (y.2.2.2 = true → leftN t y.2.1 < leftN t a0)) (0, a0, d0, false) rfl ⟨by simp, hreach, by simp, by simp, by simp⟩ (by simp [R]; omega) (fun y hy => ?_)
      have hua : (if (a0, d0, true).2.2 = true then leftN t (a0, d0, true).1 + 1 else 0) = leftN t a0 + 1 := rfl
      simp only at hua
      generalize leftN t a0 = u0 at *
      obtain ⟨i, a, d, ag⟩ := y
      obtain ⟨hi, hreach, hdone, hu, hu2⟩ := hy
      simp only at hi hreach hdone hu hu2
      have hdl := reach_length hreach
      refine ev_seq (ev_reg (by simp; rfl) ?_)  -- region 16
      refine ev_seq (ev_cond rfl (fun hb => ?_) (fun hb => ?_))  -- 41
      · simp at hb
        have hbi := hb
        have hw1 : IntKind.i64.wrap ((i : Int) + 1) = (i + 1 : Nat) := wrap_nat (n := i + 1) (by omega)
        have hb2 : i < d.length := by omega
        have hdg : d.getD i 0 = d[i] := by simp [List.getD_eq_getElem?_getD, List.getElem?_eq_getElem hb2]
        have hdi : d[i]? = some d[i] := List.getElem?_eq_getElem hb2
        refine ev_skip ?_
        refine ev_seq (ev_block ?_)  -- 5
        refine ev_seq (ev_reg (by simp; rfl) ?_)  -- region 17
        obtain ⟨A, hA⟩ : ∃ A, A = decide (0 ≤ d[i]) := ⟨_, rfl⟩
        refine ev_seq (ev_seq (ev_reg (by simp [hb, hdl, hdi, ← hA]; rfl) ?_))  -- region 18
        cases A with
        | true =>
          refine ev_cond rfl (fun hb => ?_) (fun hb => by simp at hb)  -- 47
          refine ev_exit ?_  -- 5
          refine ev_reg (by simp [hw1]; rfl) ?_  -- region 32
          refine ⟨(i + 1, a, d, ag), rfl, ⟨by simp only; omega, hreach, fun h i' hi' hd' => ?_, hu, hu2⟩, by simp only; omega⟩
          by_cases e : i' = i
          · subst e
            have := of_decide_eq_true hA.symm
            simp only at hd'
            omega
          · exact hdone h i' (by simp only at hi'; omega) hd'
        | false =>
          refine ev_cond rfl (fun hb => by simp at hb) (fun hb => ?_)  -- 47
          have hneg : d.getD i 0 < 0 := by rw [hdg]; exact Int.not_le.mp (of_decide_eq_false hA.symm)
          refine ev_skip ?_
          have e69 := h69 i (-1) hbi
          refine ev_seq (ev_reg (by simp [e69, caps84]; rfl) ?_)  -- region 19
          refine ev_block ?_  -- 6
          have hbef : before (-1) (listAt t i) = listAt t i := before_none _ _ (fun h => by have := ((hcu i hbi).2 _ h).1; omega)
          have hitr := itr84_hit t i hbi (-1) false
          rw [hbef] at hitr
          refine ev_range (ns := []) (ro := false) (k := 84) (caps := caps84 t i (-1)) rfl (by simp [caps84]) hitr (fun y : List (Nat × Nat) × Option Nat => ({ env := [(2, V.own 2 0 0), (3, V.fv false (FV.int IntKind.i64 0)), (5, V.ptr 5 0), (6, V.ptr 6 0), (8, V.ptr 8 0), (9, V.ptr 9 0), (10, V.ptr 10 0), (39, V.fv false (FV.int IntKind.i64 ↑t.cu.length)), (40, V.fv false (FV.int IntKind.i64 ↑i)), (50, V.fv false (FV.fn (Fn.func 84) [] [FV.pt (cellsT t) 0, FV.pt [FV.int IntKind.i64 ↑i] 0, FV.pt [FV.int IntKind.i64 (-1)] 0]))], blk := [(2, Blk.arr 1 []), (5, Blk.box [V.fv false (FV.sl t.fc 1 (rowsF t.cu)), V.fv false (FV.sl t.fd 2 (ctrysF t.co))]), (6, Blk.box [V.own 26 0 t.cu.length]), (8, Blk.box [V.map 36]), (9, Blk.box [V.fv false (FV.bool ag)]), (10, Blk.box [V.fv false (FV.int IntKind.i64 ↑i)])] ++ (match y.2 with | none => [] | some c => [(12, Blk.box [V.fv false (FV.int IntKind.i64 ↑i), V.fv false (FV.int IntKind.i64 ↑c)])]) ++ [(26, Blk.arr 1 (ints d)), (36, Blk.mp (askF y.1))] } : St)) (fun k y => ReachT t y.1 d ∧ (∀ j, j < k → ∀ x : Nat, (listAt t i)[j]? = some (x : Int) → (i, x) ∈ y.1) ∧ leftN t y.1 ≤ leftN t a ∧ ∀ i', i' < i → AllAsked t a i' → AllAsked t y.1 i') (a, none) (by simp) ⟨hreach, by omega, Nat.le_refl _, fun _ _ h => h⟩ (fun k hk y hy => ?_) (fun y hy => ?_)
          · obtain ⟨a', w⟩ := y
            obtain ⟨hr, hpre, hu', hall⟩ := hy
            simp only at hr hpre hu' hall
            have hkl : k < (listAt t i).length := by simpa [outs1] using hk
            obtain ⟨c, hc⟩ : ∃ c : Nat, (listAt t i)[k] = (c : Int) := ⟨((listAt t i)[k]).toNat, by have := ((hcu i hbi).2 _ (List.getElem_mem hkl)).1; omega⟩
            have hcm : c < t.co.length := by have := ((hcu i hbi).2 _ (List.getElem_mem hkl)).2; omega
            have hk? : (listAt t i)[k]? = some (c : Int) := by rw [List.getElem?_eq_getElem hkl, hc]
            have hox : (outs1 (listAt t i))[k] = [.int .i64 c] := by simp [outs1, hc]
            have hits : (pgr ctx t).its 84 ((caps84 t i (-1)).map fun c => (false, c)) k = true := by
              show (itr84 t 84 _).isSome = true
              rw [hitr]; rfl
            rw [hox]
            refine ⟨_, by simp; rfl, ?_⟩
            refine ev_reg (σ' := { env := [(2, V.own 2 0 0), (3, V.fv false (FV.int IntKind.i64 0)), (5, V.ptr 5 0), (6, V.ptr 6 0), (8, V.ptr 8 0), (9, V.ptr 9 0), (10, V.ptr 10 0), (11, V.fv false (FV.int .i64 c)), (39, V.fv false (FV.int IntKind.i64 ↑t.cu.length)), (40, V.fv false (FV.int IntKind.i64 ↑i)), (50, V.fv false (FV.fn (Fn.func 84) [] [FV.pt (cellsT t) 0, FV.pt [FV.int IntKind.i64 ↑i] 0, FV.pt [FV.int IntKind.i64 (-1)] 0])), (100000002, V.own 2 0 0), (100000003, V.fv false (FV.int IntKind.i64 0)), (100000005, V.ptr 5 0), (100000006, V.ptr 6 0), (100000008, V.ptr 8 0), (100000009, V.ptr 9 0), (100000010, V.ptr 10 0), (100000039, V.fv false (FV.int IntKind.i64 ↑t.cu.length)), (100000040, V.fv false (FV.int IntKind.i64 ↑i)), (100000050, V.fv false (FV.fn (Fn.func 84) [] [FV.pt (cellsT t) 0, FV.pt [FV.int IntKind.i64 ↑i] 0, FV.pt [FV.int IntKind.i64 (-1)] 0]))], blk := [(2, Blk.arr 1 []), (5, Blk.box [V.fv false (FV.sl t.fc 1 (rowsF t.cu)), V.fv false (FV.sl t.fd 2 (ctrysF t.co))]), (6, Blk.box [V.own 26 0 t.cu.length]), (8, Blk.box [V.map 36]), (9, Blk.box [V.fv false (FV.bool ag)]), (10, Blk.box [V.fv false (FV.int IntKind.i64 ↑i)]), (26, Blk.arr 1 (ints d)), (36, Blk.mp (askF a'))] }) (by cases w <;> simp) ?_  -- region 20
            refine ⟨rfl, ?_⟩
            refine ev_block ?_  -- 7
            refine ev_seq (ev_reg (by simp; rfl) ?_)  -- region 21
            have hfs : fscals false [FV.int .i64 (i : Int), FV.int .i64 (c : Int)] [FV.int .i64 (i : Int), FV.int .i64 (c : Int)] = some true := by simp [fscals, fscal]
            have hfind := find_ask ctx t i c a' 0
            by_cases hin : (i, c) ∈ a'
            · rw [if_pos hin] at hfind
              obtain ⟨j, hfind⟩ := hfind
              simp only [pairF] at hfind
              refine ev_seq (ev_seq (ev_reg (by simp [hfind, hfs]; rfl) ?_))  -- region 22
              refine ev_cond rfl (fun hb => ?_) (fun hb => by simp at hb)  -- 57
              refine ev_exit ?_  -- 7
              simp only [inBlock_exit, if_true, roundQ_normal]
              refine ⟨(a', some c), by simp, hr, fun j hj x hx => ?_, hu', hall⟩
              by_cases e : j = k
              · subst e
                rw [hk?] at hx
                have : c = x := Int.ofNat.inj (Option.some.inj hx)
                exact this ▸ hin
              · exact hpre j (by omega) x hx
            · rw [if_neg hin] at hfind
              simp only [pairF] at hfind
              have happ : askF a' ++ [(FV.agg [.int .i64 i, .int .i64 c], .bool true)] = askF (a' ++ [(i, c)]) := by simp [askF]
              refine ev_seq (ev_seq (ev_reg (by simp [hfind, hfs]; rfl) ?_))  -- region 22
              refine ev_cond rfl (fun hb => by simp at hb) (fun hb => ?_)  -- 57
              refine ev_skip ?_
              refine ev_seq (ev_reg (by simp [hfind, hfs, happ]; rfl) ?_)  -- region 23
              have e70 := h70 d i c hdl hbi hcm
              have htk : d.take t.cu.length = d := List.take_of_length_le (by omega)
              have hlt := left_lt (mem_pairsT hbi hk?) hin
              have hall2 : ∀ i', i' < i → AllAsked t a i' → AllAsked t (a' ++ [(i, c)]) i' := fun i' h1 h2 => (hall i' h1 h2).app _
              obtain ⟨B, hB⟩ : ∃ B, takesB t d i c = B := ⟨_, rfl⟩
              rw [hB] at e70
              refine ev_seq (ev_seq (ev_reg (by simp [htk, e70]; rfl) ?_))  -- region 24
              cases B with
              | false =>
                refine ev_cond rfl (fun hb => ?_) (fun hb => by simp at hb)  -- 64
                refine ev_exit ?_  -- 7
                simp only [inBlock_exit, if_true, roundQ_normal]
                refine ⟨(a' ++ [(i, c)], some c), by simp, hr.no i k c hbi hneg hk? hpre hin hB, fun j hj x hx => ?_, by simp only; omega, hall2⟩
                by_cases e : j = k
                · subst e
                  rw [hk?] at hx
                  have : c = x := Int.ofNat.inj (Option.some.inj hx)
                  rw [← this]; simp
                · exact List.mem_append_left _ (hpre j (by omega) x hx)
              | true =>
                refine ev_cond rfl (fun hb => by simp at hb) (fun hb => ?_)  -- 64
                refine ev_skip ?_
                have hyes := hr.yes i k c hbi hneg hk? hpre hin hB
                have hroom := roomAt_get hcm
                have e68 := h68 d c (by omega)
                have hle := sellN_le d c
                have hslt := @sellN_lt d c
                have hsel : ∀ x ∈ sellN d c, d.getD x 0 = c := fun x hx => by
                  simp only [sellN, List.mem_filter, selB, beq_iff_eq] at hx; exact hx.2
                obtain ⟨nd, hnd⟩ : ∃ nd, nd = newD t d i c := ⟨_, rfl⟩
                have hnd2 := hnd
                unfold newD at hnd2
                rw [← hnd] at hyes
                have hroom0 : ((sellN d c).length : Int) = roomAt t c → 0 < (sellN d c).length := fun h => by
                  simp only [takesB, Bool.or_eq_true, Bool.and_eq_true, decide_eq_true_eq] at hB
                  omega
                have e72 := fun h0 => h72 (sellN d c) c h0 (by omega) (fun x hx => by have := hslt x hx; omega) hcm
                have hwm := fun h0 => worst_mem (t := t) (c := c) (l := sellN d c) h0
                generalize sellN d c = sl at *
                have htl := nn_take_all sl sl.length (Nat.le_refl _)
                refine ev_seq (ev_seq (ev_reg (by simp [htk, e68]; rfl) ?_))  -- region 25
                obtain ⟨F, hF⟩ : ∃ F, ((sl.length : Int) == roomAt t c) = F := ⟨_, rfl⟩
                rw [hroom] at hF
                refine ev_seq (ev_reg (by simp [hcm, ctryF, hF]; rfl) ?_)  -- region 26
                rw [← hroom] at hF
                cases F with
                | false =>
                  rw [if_neg (by simpa using hF)] at hnd2
                  refine ev_cond rfl (fun hb => by simp at hb) (fun hb => ?_)  -- 77
                  refine ev_skip ?_
                  have hset2 : d.set i (c : Int) = nd := hnd2.symm
                  refine ev_seq (ev_reg (by simp [hbi, hdl, hdi]; rfl) ?_)  -- region 30
                  refine ev_seq (ev_reg (by simp; rfl) ?_)  -- region 31
                  refine ev_exit ?_  -- 6
                  rw [hset2]
                  simp only [inBlock_exit, show (6 = 7) = False from by simp, if_false, roundQ_exit]
                  refine ⟨hits, ?_⟩
                  simp only [inBlock_exit, if_true, then_normal]
                  refine ev_reg (by simp [hw1]; rfl) ?_  -- region 32
                  refine ⟨(i + 1, a' ++ [(i, c)], nd, true), by simp, ⟨by simp only; omega, hyes, by simp, by simp only; omega, fun _ => by simp only; omega⟩, by simp only; omega⟩
                | true =>
                  have hF := eq_of_beq hF
                  rw [if_pos hF] at hnd2
                  have hl0 := hroom0 hF
                  have e72 := e72 hl0
                  have hwm := hwm hl0
                  generalize worstN t c sl = w at *
                  have hwn := hslt w hwm
                  have hwi : w ≠ i := fun e => by
                    have := hsel w hwm
                    rw [e] at this
                    omega
                  have hfs2 : fscals false [FV.int .i64 (w : Int), FV.int .i64 (c : Int)] [FV.int .i64 (i : Int), FV.int .i64 (c : Int)] = some false := by
                    have : ¬ (w : Int) = i := by omega
                    simp [fscals, fscal, this]
                  have hdw : d[w]? = some d[w] := List.getElem?_eq_getElem hwn
                  have hwn2 : w < t.cu.length := by omega
                  refine ev_cond rfl (fun hb => ?_) (fun hb => by simp at hb)  -- 77
                  refine ev_seq (ev_reg (by simp [htl, e72]; rfl) ?_)  -- region 27
                  refine ev_seq (ev_reg (by simp [hfs2]; rfl) ?_)  -- region 28
                  refine ev_cond rfl (fun hb => ?_) (fun hb => by simp at hb)  -- 86
                  refine ev_reg (by simp [hwn2, hdw]; rfl) ?_  -- region 29
                  have hdi2 : (d.set w (-1))[i]? = some d[i] := by
                    rw [List.getElem?_set_ne hwi, hdi]
                  have hl2 : (d.set w (-1)).length = d.length := by simp
                  generalize d.set w (-1) = d2 at *
                  refine ev_seq (ev_reg (by simp [hbi, hl2, hdl, hdi2]; rfl) ?_)  -- region 30
                  refine ev_seq (ev_reg (by simp; rfl) ?_)  -- region 31
                  refine ev_exit ?_  -- 6
                  rw [← hnd2]
                  simp only [inBlock_exit, show (6 = 7) = False from by simp, if_false, roundQ_exit]
                  refine ⟨hits, ?_⟩
                  simp only [inBlock_exit, if_true, then_normal]
                  refine ev_reg (by simp [hw1]; rfl) ?_  -- region 32
                  refine ⟨(i + 1, a' ++ [(i, c)], nd, true), by simp, ⟨by simp only; omega, hyes, by simp, by simp only; omega, fun _ => by simp only; omega⟩, by simp only; omega⟩
          · obtain ⟨a', w⟩ := y
            obtain ⟨hr, hpre, hu', hall⟩ := hy
            simp only at hr hpre hu' hall
            simp only [inBlock_normal, then_normal]
            have hol : (outs1 (listAt t i)).length = (listAt t i).length := by simp [outs1]
            rw [hol] at hpre
            refine ev_reg (σ' := { env := [(2, V.own 2 0 0), (3, V.fv false (FV.int IntKind.i64 0)), (5, V.ptr 5 0), (6, V.ptr 6 0), (8, V.ptr 8 0), (9, V.ptr 9 0), (39, V.fv false (FV.int .i64 t.cu.length)), (40, V.fv false (FV.int .i64 (i + 1 : Nat)))], blk := [(2, Blk.arr 1 []), (5, Blk.box [V.fv false (FV.sl t.fc 1 (rowsF t.cu)), V.fv false (FV.sl t.fd 2 (ctrysF t.co))]), (6, Blk.box [V.own 26 0 t.cu.length]), (8, Blk.box [V.map 36]), (9, Blk.box [V.fv false (FV.bool ag)]), (26, Blk.arr 1 (ints d)), (36, Blk.mp (askF a'))] }) (by cases w <;> simp [hw1]) ?_  -- region 32
            refine ⟨(i + 1, a', d, ag), rfl, ⟨by simp only; omega, hr, fun h i' hi' hd' => ?_, by simp only; omega, fun h => by have := hu2 h; simp only; omega⟩, by simp only; omega⟩
            simp only at hi' hd'
            by_cases e : i' = i
            · subst e
              exact fun j x hx => hpre j (by
                have := (List.getElem?_eq_some_iff.mp hx).1
                exact this) x hx
            · exact hall i' (by omega) (hdone h i' (by omega) hd')
      · simp at hb
        have hin : i = t.cu.length := by omega
        subst hin
        refine ev_exit ?_  -- 4
        refine ev_seq (ev_reg (by simp; rfl) ?_)  -- region 33
        refine ev_reg (by simp; rfl) ?_  -- region 34
        refine ⟨(a, d, ag), rfl, ⟨hreach, fun h => hdone h⟩, ?_⟩
        cases ag with
        | false => simp only; exact Nat.succ_pos _
        | true => have := hu2 rfl; simp only [if_true]; omega
theorem v34r (ctx : Ctx) (hC : CtxOk (pg ctx)) (t : Trade) (h32 : H32 ctx t 102) : Valid Try.prog 34 [(false, tradeF t)] [.us 1 (ints []), .fv (.int .i64 102)] := by
  refine valid_of_ev (G := pg ctx) (tok ctx) hC mixed Try.func34 T34 L34x (by simp [Try.ntmps34]) ⟨_, rfl, ?_⟩
  unfold H32 at h32
  simp only [tradeF, cellsT] at h32
  simp only [Try.ntmps34, Try.results34, initSt, initEnv, tradeF, cellsT]
  refine ev_seq (ev_reg (by simp [boxA, vcells]; rfl) ?_)  -- region 0
  refine ev_seq (ev_seq (ev_reg (by simp [h32]; rfl) ?_))  -- region 1
  refine ev_seq (ev_reg (by simp; rfl) ?_)  -- region 2
  refine ev_cond rfl (fun hb => ?_) (fun hb => by simp at hb)  -- 18
  refine ev_seq (ev_reg (by simp; rfl) ?_)  -- region 3
  refine ev_ret ?_
  simp
end Go.Proofs.Ytoafhoihigfllaa.E
