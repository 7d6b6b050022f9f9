/-
  The chapter of the treaty: Stable by the program: the walk. Conditions: none.
-/
import Derived.Test.YtoafhoihigfllaaSl
import Derived.Test.YtoafhoihigfllaaSf
namespace Go.Proofs.Ytoafhoihigfllaa.E
open Go Go.RowKit
set_option linter.unusedVariables false
set_option linter.unusedSimpArgs false
def L30x : Live := [(0, ([2, 3, 4, 5], [])), (1, ([2, 3, 4, 5, 6], [])), (2, ([2, 3, 4, 5, 6, 16], [])), (3, ([4, 5], [])), (4, ([3, 4, 5, 7], [])), (5, ([3, 4, 5, 7, 31], [])), (6, ([4, 5], [])), (7, ([3, 4, 5, 7, 32, 33, 34], [])), (8, ([3, 4, 5, 7, 32, 33, 34, 35], [])), (9, ([3, 4, 5, 7, 8, 9, 32, 33, 34], [])), (10, ([3, 4, 5, 7, 32, 33, 34, 50], [])), (11, ([4, 5], [])), (12, ([3, 4, 5, 7, 32, 33, 34], [])), (13, ([3, 4, 5, 7, 55, 56], [])), (14, ([3, 4, 5, 7, 55, 56, 57], [])), (15, ([3, 4, 5, 7, 10, 55, 56], [])), (16, ([3, 4, 5, 7, 55, 56, 70], [])), (17, ([4, 5], [])), (18, ([3, 4, 5, 7, 55, 56], [])), (19, ([3, 4, 5, 7, 75, 76], [])), (20, ([3, 4, 5, 7, 75, 76, 77], [])), (21, ([3, 4, 5, 7, 11, 75, 76], [])), (22, ([3, 4, 5, 7, 11, 75, 76, 85], [])), (23, ([3, 4, 5, 7, 11, 12, 75, 76, 85], [])), (24, ([3, 4, 5, 7, 11, 75, 76, 85, 92], [])), (25, ([4, 5, 85], [])), (26, ([3, 4, 5, 7, 75, 76], [])), (27, ([4, 5], []))]
@[simp] theorem kL30x_0 : kof L30x 0 = ([2, 3, 4, 5], []) := rfl
@[simp] theorem kL30x_1 : kof L30x 1 = ([2, 3, 4, 5, 6], []) := rfl
@[simp] theorem kL30x_2 : kof L30x 2 = ([2, 3, 4, 5, 6, 16], []) := rfl
@[simp] theorem kL30x_3 : kof L30x 3 = ([4, 5], []) := rfl
@[simp] theorem kL30x_4 : kof L30x 4 = ([3, 4, 5, 7], []) := rfl
@[simp] theorem kL30x_5 : kof L30x 5 = ([3, 4, 5, 7, 31], []) := rfl
@[simp] theorem kL30x_6 : kof L30x 6 = ([4, 5], []) := rfl
@[simp] theorem kL30x_7 : kof L30x 7 = ([3, 4, 5, 7, 32, 33, 34], []) := rfl
@[simp] theorem kL30x_8 : kof L30x 8 = ([3, 4, 5, 7, 32, 33, 34, 35], []) := rfl
@[simp] theorem kL30x_9 : kof L30x 9 = ([3, 4, 5, 7, 8, 9, 32, 33, 34], []) := rfl
@[simp] theorem kL30x_10 : kof L30x 10 = ([3, 4, 5, 7, 32, 33, 34, 50], []) := rfl
@[simp] theorem kL30x_11 : kof L30x 11 = ([4, 5], []) := rfl
@[simp] theorem kL30x_12 : kof L30x 12 = ([3, 4, 5, 7, 32, 33, 34], []) := rfl
@[simp] theorem kL30x_13 : kof L30x 13 = ([3, 4, 5, 7, 55, 56], []) := rfl
@[simp] theorem kL30x_14 : kof L30x 14 = ([3, 4, 5, 7, 55, 56, 57], []) := rfl
@[simp] theorem kL30x_15 : kof L30x 15 = ([3, 4, 5, 7, 10, 55, 56], []) := rfl
@[simp] theorem kL30x_16 : kof L30x 16 = ([3, 4, 5, 7, 55, 56, 70], []) := rfl
@[simp] theorem kL30x_17 : kof L30x 17 = ([4, 5], []) := rfl
@[simp] theorem kL30x_18 : kof L30x 18 = ([3, 4, 5, 7, 55, 56], []) := rfl
@[simp] theorem kL30x_19 : kof L30x 19 = ([3, 4, 5, 7, 75, 76], []) := rfl
@[simp] theorem kL30x_20 : kof L30x 20 = ([3, 4, 5, 7, 75, 76, 77], []) := rfl
@[simp] theorem kL30x_21 : kof L30x 21 = ([3, 4, 5, 7, 11, 75, 76], []) := rfl
@[simp] theorem kL30x_22 : kof L30x 22 = ([3, 4, 5, 7, 11, 75, 76, 85], []) := rfl
@[simp] theorem kL30x_23 : kof L30x 23 = ([3, 4, 5, 7, 11, 12, 75, 76, 85], []) := rfl
@[simp] theorem kL30x_24 : kof L30x 24 = ([3, 4, 5, 7, 11, 75, 76, 85, 92], []) := rfl
@[simp] theorem kL30x_25 : kof L30x 25 = ([4, 5, 85], []) := rfl
@[simp] theorem kL30x_26 : kof L30x 26 = ([3, 4, 5, 7, 75, 76], []) := rfl
@[simp] theorem kL30x_27 : kof L30x 27 = ([4, 5], []) := rfl
theorem v30 (ctx : Ctx) (hC : CtxOk (pg ctx)) (t : Trade) (hm62 : t.co.length < 2^62) (d : List Int) (hd62 : d.length < 2^62) (hl : ∀ i, (listAt t i).length < 2^62) (r2 cl : Bool) (h32 : ctx 32 [(false, tradeF t)] = some [.fv (.int .i64 (codeT t))]) (h52 : H52 ctx 66 [.pt (cellsT t) 0] (badD t.co.length)) (h67 : H67 ctx t) (h83 : H83 ctx t) (h68 : H68 ctx) (h69 : H69 ctx t) (h70 : okTrade t = true → H70 ctx t t.cu.length) :
    Valid Try.prog 30 [(false, tradeF t), (r2, .sl cl 1 (ints d))] [.fv (.bool (valS t d)), .fv (.int .i64 (codeS t d))] := by
  refine valid_of_ev (G := pgr ctx t) (tokr ctx t) (ctxr ctx t hC hl) mixed Try.func30 T30 L30x (by simp [Try.ntmps30]) ⟨_, rfl, ?_⟩
  unfold H67 at h67
  unfold H83 at h83
  unfold H69 at h69
  simp only [tradeF, cellsT] at h32 h67 h69 h83
  unfold H52 at h52
  simp only [cellsT] at h52
  simp only [Try.ntmps30, Try.results30, initSt, initEnv, tradeF, cellsT]
  rw [codeT] at h32
  unfold valS codeS
  cases hok : okTrade t with
  | false =>
    rw [hok] at h32
    refine ev_seq (ev_reg (by simp [boxA, vcells]; rfl) ?_)  -- region 0
    refine ev_seq (ev_seq (ev_reg (by simp [h32]; rfl) ?_))  -- region 1
    refine ev_seq (ev_reg (by simp; rfl) ?_)  -- region 2
    refine ev_cond rfl (fun hb => ?_) (fun hb => by simp at hb)  -- 16
    refine ev_seq (ev_reg (by simp; rfl) ?_)  -- region 3
    refine ev_ret ?_
    simp
  | true =>
    rw [hok] at h32
    have hT := okTrade_iff.mp hok
    have h70 := h70 hok
    unfold H70 at h70
    simp only [tradeF, cellsT] at h70
    have hn := hT.n
    have hm := hT.m
    have e52 := fun ro rf c => h52 d ro rf c hd62
    refine ev_seq (ev_reg (by simp [boxA, vcells]; rfl) ?_)  -- region 0
    refine ev_seq (ev_seq (ev_reg (by simp [h32]; rfl) ?_))  -- region 1
    refine ev_seq (ev_reg (by simp; rfl) ?_)  -- region 2
    refine ev_cond rfl (fun hb => by simp at hb) (fun hb => ?_)  -- 16
    refine ev_skip ?_
    refine ev_seq (ev_reg (by simp; rfl) ?_)  -- region 4
    have hany : d.any (badD t.co.length) = !d.all (goodD t.co.length) := by
      rw [List.all_eq_not_any_not, Bool.not_not]; rfl
    cases hask : okAskT t d with
    | false =>
      refine ev_seq (ev_seq (ev_reg (σ' := { env := [(3, V.ptr 3 0), (4, V.ptr 4 0), (5, V.ptr 5 0), (7, V.ptr 7 0), (31, V.fv false (.bool true))], blk := [(3, Blk.box [V.fv r2 (FV.sl cl 1 (ints d))]), (4, Blk.box [V.fv false (FV.bool false)]), (5, Blk.box [V.fv false (FV.int .i64 0)]), (7, Blk.box [V.fv false (FV.sl t.fc 1 (rowsF t.cu)), V.fv false (FV.sl t.fd 2 (ctrysF t.co))])] }) (by
        by_cases h1 : d.length = t.cu.length
        · have h2 : d.all (goodD t.co.length) = false := by rw [okAskT, decide_eq_true h1, Bool.true_and] at hask; exact hask
          rw [h2] at hany
          simp [unsetS, h1, e52, hany]
        · have h1' : ((d.length : Int) != (t.cu.length : Int)) = true := by rw [bne_iff_ne]; omega
          simp [unsetS, h1']) ?_))  -- region 5
      refine ev_cond rfl (fun hb => ?_) (fun hb => by simp at hb)  -- 31
      refine ev_seq (ev_reg (by simp; rfl) ?_)  -- region 6
      refine ev_ret ?_
      simp
    | true =>
      obtain ⟨hdl, hbd⟩ := okAsk_facts hask
      have h2 : d.all (goodD t.co.length) = true := by rw [okAskT, Bool.and_eq_true] at hask; exact hask.2
      rw [h2] at hany
      refine ev_seq (ev_seq (ev_reg (σ' := { env := [(3, V.ptr 3 0), (4, V.ptr 4 0), (5, V.ptr 5 0), (7, V.ptr 7 0), (31, V.fv false (.bool false))], blk := [(3, Blk.box [V.fv r2 (FV.sl cl 1 (ints d))]), (4, Blk.box [V.fv false (FV.bool false)]), (5, Blk.box [V.fv false (FV.int .i64 0)]), (7, Blk.box [V.fv false (FV.sl t.fc 1 (rowsF t.cu)), V.fv false (FV.sl t.fd 2 (ctrysF t.co))])] }) (by
        simp [unsetS, hdl, e52, hany]) ?_))  -- region 5
      refine ev_cond rfl (fun hb => by simp at hb) (fun hb => ?_)  -- 31
      refine ev_skip ?_
      refine ev_seq (ev_seq (ev_reg (by simp; rfl) ?_))  -- region 7
      refine ev_block ?_  -- 0
      refine ev_loop (fun i : Nat => ({ env := [(3, V.ptr 3 0), (4, V.ptr 4 0), (5, V.ptr 5 0), (7, V.ptr 7 0), (32, V.fv r2 (FV.sl cl 1 (ints d))), (33, V.fv false (.int .i64 d.length)), (34, V.fv false (.int .i64 i))], blk := [(3, Blk.box [V.fv r2 (FV.sl cl 1 (ints d))]), (4, Blk.box [V.fv false (FV.bool false)]), (5, Blk.box [V.fv false (FV.int .i64 0)]), (7, Blk.box [V.fv false (FV.sl t.fc 1 (rowsF t.cu)), V.fv false (FV.sl t.fd 2 (ctrysF t.co))])] } : St)) (fun i => d.length - i) (fun i => i ≤ d.length ∧ ∀ j, j < i → d.getD j 0 = -1 ∨ d.getD j 0 ∈ listAt t j) 0 (by simp) ⟨Nat.zero_le _, fun j hj => absurd hj (Nat.not_lt_zero j)⟩ (by simp [R]; omega) (fun i hi => ?_)
      obtain ⟨hi, hown⟩ := hi
      refine ev_seq (ev_reg (by simp; rfl) ?_)  -- region 8
      refine ev_seq (ev_cond rfl (fun hb => ?_) (fun hb => ?_))  -- 35
      · simp at hb
        have hin : i < t.cu.length := by omega
        have hw1 : IntKind.i64.wrap ((i : Int) + 1) = (i + 1 : Nat) := wrap_nat (n := i + 1) (by omega)
        obtain ⟨x, hgx, hgx2, hxl, hgx3⟩ := deal_get2 hdl hin
        have hbx := hbd i hin
        rw [hgx] at hbx
        have e83 := h83 i x hin
        refine ev_skip ?_
        refine ev_seq (ev_block ?_)  -- 1
        refine ev_seq (ev_reg (by simp [hb, hgx2, hgx3]; rfl) ?_)  -- region 9
        obtain ⟨B, hB⟩ : ∃ B, B = (decide (0 ≤ x) && decide (idx (· == x) (listAt t i) < 0)) := ⟨_, rfl⟩
        refine ev_seq (ev_reg (σ' := { env := [(3, V.ptr 3 0), (4, V.ptr 4 0), (5, V.ptr 5 0), (7, V.ptr 7 0), (32, V.fv r2 (FV.sl cl 1 (ints d))), (33, V.fv false (.int .i64 d.length)), (34, V.fv false (.int .i64 i)), (50, V.fv false (.bool B))], blk := [(3, Blk.box [V.fv r2 (FV.sl cl 1 (ints d))]), (4, Blk.box [V.fv false (FV.bool false)]), (5, Blk.box [V.fv false (FV.int .i64 0)]), (7, Blk.box [V.fv false (FV.sl t.fc 1 (rowsF t.cu)), V.fv false (FV.sl t.fd 2 (ctrysF t.co))])] }) (by
          by_cases h0 : 0 ≤ x
          · have hB2 : B = decide (idx (· == x) (listAt t i) < 0) := by rw [hB, decide_eq_true h0, Bool.true_and]
            rw [hB2]
            simp [unsetS, h0, h67, e83]
          · have hB2 : B = false := by rw [hB, decide_eq_false h0, Bool.false_and]
            rw [hB2]
            simp [unsetS, h0]) ?_)  -- region 10
        cases B with
        | true =>
          have hB := hB.symm
          simp only [Bool.and_eq_true, decide_eq_true_eq] at hB
          have hs := stabB_false (t := t) (d := d) (fun h => by
            have h1 := h.own i hin
            rw [hgx] at h1
            obtain ⟨k, -, h3⟩ := idx_at (h1.resolve_left (by omega))
            omega)
          refine ev_cond rfl (fun hb => ?_) (fun hb => by simp at hb)  -- 50
          refine ev_seq (ev_reg (by simp; rfl) ?_)  -- region 11
          refine ev_ret ?_
          simp [hs]
        | false =>
          have hB := hB.symm
          refine ev_cond rfl (fun hb => by simp at hb) (fun hb => ?_)  -- 50
          refine ev_skip ?_
          refine ev_reg (by simp [hw1]; rfl) ?_  -- region 12
          refine ⟨i + 1, by simp, ⟨by omega, fun j hj => ?_⟩, by omega⟩
          by_cases e : j = i
          · subst e
            rw [hgx]
            simp only [Bool.and_eq_false_iff, decide_eq_false_iff_not] at hB
            by_cases h0 : 0 ≤ x
            · refine .inr (Classical.byContradiction fun h3 => ?_)
              have := idx_no h3
              omega
            · exact .inl (by omega)
          · exact hown j (by omega)
      · simp at hb
        have hown : ∀ j, j < t.cu.length → d.getD j 0 = -1 ∨ d.getD j 0 ∈ listAt t j := fun j hj => hown j (by omega)
        refine ev_exit ?_  -- 0
        refine ev_seq (ev_seq (ev_reg (by simp; rfl) ?_))  -- region 13
        refine ev_block ?_  -- 2
        refine ev_loop (fun c : Nat => ({ env := [(3, V.ptr 3 0), (4, V.ptr 4 0), (5, V.ptr 5 0), (7, V.ptr 7 0), (55, V.fv false (.int .i64 t.co.length)), (56, V.fv false (.int .i64 c))], blk := [(3, Blk.box [V.fv r2 (FV.sl cl 1 (ints d))]), (4, Blk.box [V.fv false (FV.bool false)]), (5, Blk.box [V.fv false (FV.int .i64 0)]), (7, Blk.box [V.fv false (FV.sl t.fc 1 (rowsF t.cu)), V.fv false (FV.sl t.fd 2 (ctrysF t.co))])] } : St)) (fun c => t.co.length - c) (fun c => c ≤ t.co.length ∧ ∀ k, k < c → ((sellN d k).length : Int) ≤ roomAt t k) 0 (by simp) ⟨Nat.zero_le _, fun j hj => absurd hj (Nat.not_lt_zero j)⟩ (by simp [R]; omega) (fun c hc => ?_)
        obtain ⟨hc, hfew⟩ := hc
        refine ev_seq (ev_reg (by simp; rfl) ?_)  -- region 14
        refine ev_seq (ev_cond rfl (fun hb => ?_) (fun hb => ?_))  -- 57
        · simp at hb
          have hcm := hb
          have hw1 : IntKind.i64.wrap ((c : Int) + 1) = (c + 1 : Nat) := wrap_nat (n := c + 1) (by omega)
          have e68 := h68 d c (by omega)
          have hroom := roomAt_get hcm
          refine ev_skip ?_
          refine ev_seq (ev_block ?_)  -- 3
          refine ev_seq (ev_reg (by simp; rfl) ?_)  -- region 15
          refine ev_seq (ev_drw rfl (by kernel_rfl) (by kernel_rfl) (by simp [e68, hcm, ctryF]; rfl) ?_)  -- region 16
          refine ev_cond rfl (fun hb => ?_) (fun hb => ?_)  -- 70
          · simp at hb
            have hs := stabB_false (t := t) (d := d) (fun h => by have := h.few c hcm; rw [hroom] at this; omega)
            refine ev_seq (ev_reg (by simp; rfl) ?_)  -- region 17
            refine ev_ret ?_
            simp [hs]
          · simp at hb
            refine ev_skip ?_
            refine ev_reg (by simp [hw1]; rfl) ?_  -- region 18
            refine ⟨c + 1, by simp, ⟨by omega, fun k hk => ?_⟩, by omega⟩
            by_cases e : k = c
            · subst e; rw [hroom]; omega
            · exact hfew k (by omega)
        · simp at hb
          have hfew : ∀ c, c < t.co.length → ((sellN d c).length : Int) ≤ roomAt t c := fun c hc => hfew c (by omega)
          refine ev_exit ?_  -- 2
          refine ev_seq (ev_seq (ev_reg (by simp; rfl) ?_))  -- region 19
          refine ev_block ?_  -- 4
          refine ev_loop (fun i : Nat => ({ env := [(3, V.ptr 3 0), (4, V.ptr 4 0), (5, V.ptr 5 0), (7, V.ptr 7 0), (75, V.fv false (.int .i64 t.cu.length)), (76, V.fv false (.int .i64 i))], blk := [(3, Blk.box [V.fv r2 (FV.sl cl 1 (ints d))]), (4, Blk.box [V.fv false (FV.bool false)]), (5, Blk.box [V.fv false (FV.int .i64 0)]), (7, Blk.box [V.fv false (FV.sl t.fc 1 (rowsF t.cu)), V.fv false (FV.sl t.fd 2 (ctrysF t.co))])] } : St)) (fun i => t.cu.length - i) (fun i => i ≤ t.cu.length ∧ ∀ j, j < i → CalmT t d j) 0 (by simp) ⟨Nat.zero_le _, fun j hj => absurd hj (Nat.not_lt_zero j)⟩ (by simp [R]; omega) (fun i hi => ?_)
          obtain ⟨hi, hcalm⟩ := hi
          refine ev_seq (ev_reg (by simp; rfl) ?_)  -- region 20
          refine ev_seq (ev_cond rfl (fun hb => ?_) (fun hb => ?_))  -- 77
          · simp at hb
            have hin := hb
            have hw1 : IntKind.i64.wrap ((i : Int) + 1) = (i + 1 : Nat) := wrap_nat (n := i + 1) (by omega)
            obtain ⟨x, hgx, hgx2, hxl, hgx3⟩ := deal_get2 hdl hin
            have e69 := h69 i x hin
            refine ev_skip ?_
            refine ev_seq (ev_block ?_)  -- 5
            refine ev_seq (ev_reg (by simp [boxA, vcells]; rfl) ?_)  -- region 21
            refine ev_seq (ev_drw rfl (by kernel_rfl) (by kernel_rfl) (by simp [hxl, hgx2, hgx3, e69, caps84]; rfl) ?_)  -- region 22
            refine ev_block ?_  -- 6
            have hitr := itr84_hit t i hin x false
            have hplc : ∀ y, y ∈ before x (listAt t i) ↔ y ∈ listAt t i ∧ placeT t i y < placeT t i x := fun y => before_place hT hin
            generalize hbf : before x (listAt t i) = bl at *
            refine ev_range (ns := []) (ro := false) (k := 84) (caps := caps84 t i x) rfl (by simp [caps84]) hitr (fun _ : Unit => ({ env := [(3, V.ptr 3 0), (4, V.ptr 4 0), (5, V.ptr 5 0), (7, V.ptr 7 0), (11, V.ptr 11 0), (75, V.fv false (.int .i64 t.cu.length)), (76, V.fv false (.int .i64 i)), (85, V.fv false (FV.fn (Fn.func 84) [] [FV.pt (cellsT t) 0, FV.pt [FV.int IntKind.i64 i] 0, FV.pt [FV.int IntKind.i64 x] 0]))], blk := [(3, Blk.box [V.fv r2 (FV.sl cl 1 (ints d))]), (4, Blk.box [V.fv false (FV.bool false)]), (5, Blk.box [V.fv false (FV.int .i64 0)]), (7, Blk.box [V.fv false (FV.sl t.fc 1 (rowsF t.cu)), V.fv false (FV.sl t.fd 2 (ctrysF t.co))]), (11, Blk.box [V.fv false (FV.int .i64 i)])] } : St)) (fun k _ => ∀ j, j < k → ∀ c : Nat, bl[j]? = some (c : Int) → takesB t d i c = false) () (by simp) (fun j hj => absurd hj (Nat.not_lt_zero j)) (fun k hk y hy => ?_) (fun y hy => ?_)
            · have hkl : k < bl.length := by simpa [outs1] using hk
              have hmem := (hplc bl[k]).mp (List.getElem_mem hkl)
              obtain ⟨c, hc, hcm⟩ := list_nat hT hin hmem.1
              have hk? : bl[k]? = some (c : Int) := by rw [List.getElem?_eq_getElem hkl, hc]
              rw [hc] at hmem
              have hox : (outs1 bl)[k] = [.int .i64 c] := by simp [outs1, hc]
              have hits : (pgr ctx t).its 84 ((caps84 t i x).map fun c => (false, c)) k = true := by
                show (itr84 t 84 _).isSome = true
                rw [hitr]; rfl
              have e70 := h70 d i c hdl hin hcm
              obtain ⟨B, hB⟩ : ∃ B, takesB t d i c = B := ⟨_, rfl⟩
              rw [hB] at e70
              rw [hox]
              refine ⟨_, by simp; rfl, ?_⟩
              refine ev_reg (by simp; rfl) ?_  -- region 23
              refine ⟨rfl, ?_⟩
              refine ev_block ?_  -- 7
              refine ev_seq (ev_reg (by simp [e70]; rfl) ?_)  -- region 24
              cases B with
              | true =>
                have hs := stabB_false (not_stable (d := d) hT hin (c := c) hmem.1 (by rw [hgx]; exact hmem.2) hB)
                refine ev_cond rfl (fun hb => ?_) (fun hb => by simp at hb)  -- 92
                refine ev_seq (ev_reg (by simp; rfl) ?_)  -- region 25
                refine ev_ret ?_
                simp [hits, hs]
              | false =>
                refine ev_cond rfl (fun hb => by simp at hb) (fun hb => ?_)  -- 92
                refine ev_skip ?_
                simp only [roundQ_normal]
                refine ⟨(), by simp, fun j hj c' hc' => ?_⟩
                by_cases e : j = k
                · subst e
                  have : c' = c := by have := hc'.symm.trans hk?; simp only [Option.some.injEq] at this; omega
                  subst this
                  exact hB
                · exact hy j (by omega) c' hc'
            · have hlo : (outs1 bl).length = bl.length := by simp [outs1]
              rw [hlo] at hy
              refine ev_reg (by simp [hw1]; rfl) ?_  -- region 26
              refine ⟨i + 1, by simp, ⟨by omega, fun j hj => ?_⟩, by omega⟩
              by_cases e : j = i
              · subst e
                refine ⟨hown j hin, fun c hc hp => ?_⟩
                rw [hgx] at hp
                obtain ⟨m, hm⟩ := List.mem_iff_getElem?.mp ((hplc c).mpr ⟨hc, hp⟩)
                exact hy m (List.getElem?_eq_some_iff.mp hm).1 c hm
              · exact hcalm j (by omega)
          · simp at hb
            have hs := stabB_true (calm_stable hT hdl hfew (fun i hi => hcalm i (by omega)))
            refine ev_exit ?_  -- 4
            refine ev_seq (ev_reg (by simp; rfl) ?_)  -- region 27
            refine ev_ret ?_
            simp [hs]
end Go.Proofs.Ytoafhoihigfllaa.E
