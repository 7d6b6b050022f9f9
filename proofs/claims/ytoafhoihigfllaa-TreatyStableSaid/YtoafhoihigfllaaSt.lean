/-
  The chapter of the treaty: the law of the trade: the walk. Conditions: none.
-/
import Derived.Test.YtoafhoihigfllaaSo
namespace Go.Proofs.Ytoafhoihigfllaa.E
open Go Go.RowKit
set_option linter.unusedVariables false
set_option linter.unusedSimpArgs false
theorem stable_ask {t : Trade} {s : List Int} (hT : TradeOk t) (h : StableT t s) : okAskT t s = true := by
  simp only [okAskT, Bool.and_eq_true, decide_eq_true_eq, List.all_eq_true, goodD]
  refine ⟨h.len, fun x hx => ?_⟩
  obtain ⟨i, hi, rfl⟩ := List.getElem_of_mem hx
  have := own_bound hT h.own (i := i) (by rw [← h.len]; exact hi)
  rw [show s.getD i 0 = s[i] from by simp [List.getD_eq_getElem?_getD, List.getElem?_eq_getElem hi]] at this
  omega
theorem stable_val {t : Trade} {s : List Int} (hok : okTrade t = true) (h : StableT t s) : valS t s = true ∧ codeS t s = 0 := by
  have hT := okTrade_iff.mp hok
  have h1 := stable_ask hT h
  unfold valS codeS
  rw [hok, h1, stabB_true h]
  simp
theorem val_stable {t : Trade} {s : List Int} (h : valS t s = true) : StableT t s ∧ codeS t s = 0 := by
  unfold valS at h
  simp only [Bool.and_eq_true] at h
  obtain ⟨⟨h1, h2⟩, h3⟩ := h
  refine ⟨?_, by unfold codeS; rw [h1, h2]; simp⟩
  refine Classical.byContradiction fun h4 => ?_
  rw [stabB_false h4] at h3; cases h3
theorem v11 (ctx : Ctx) (hC : CtxOk (pg ctx)) (t : Trade) (D : List Int) (cl : Bool) (h34 : H34 ctx t) (h43 : ctx 43 [(false, tradeF t)] = some [.fv (.bool (okTrade t))]) (h44 : okTrade t = true → ctx 44 [(false, tradeF t)] = some [.us 1 (ints (madeOf t))])
    (h30 : ∀ d : List Int, d.length ≤ 8 ∨ d = D → ∀ r2 cl, ctx 30 [(false, tradeF t), (r2, .sl cl 1 (ints d))] = some [.fv (.bool (valS t d)), .fv (.int .i64 (codeS t d))]) (h45 : okTrade t = true → H45 ctx t) (h46 : H46 ctx) (hmade : okTrade t = true → StableT t (madeOf t)) (h20 : ctx 20 [] = some [.fv (.bool true)]) :
    Valid Try.prog 11 [(false, tradeF t), (false, .sl cl 1 (ints D))] [.fv (.bool true)] := by
  refine valid_of_ev (G := pg ctx) (tok ctx) hC mixed Try.func11 T11 L11 (by simp [Try.ntmps11]) ⟨_, rfl, ?_⟩
  unfold H34 at h34
  simp only [tradeF, cellsT] at h34 h43 h44 h30
  simp only [Try.ntmps11, Try.results11, initSt, initEnv, tradeF, cellsT]
  cases hok : okTrade t with
  | false =>
    rw [dealsW, codeT, hok] at h34
    rw [hok] at h43
    refine ev_seq (ev_reg (by simp [boxA, vcells]; rfl) ?_)  -- region 0
    refine ev_seq (ev_reg (by simp [h34]; rfl) ?_)  -- region 1
    refine ev_seq (ev_seq (ev_reg (by simp [h43]; rfl) ?_))  -- region 2
    refine ev_cond rfl (fun hb => ?_) (fun hb => by simp at hb)  -- 25
    refine ev_seq (ev_reg (by simp [h20]; rfl) ?_)  -- region 3
    refine ev_ret ?_
    simp
  | true =>
    have hT := okTrade_iff.mp hok
    have hB := dealsOf_best hT
    have hn := hT.n
    have hm := hT.m
    have h44 := h44 hok
    have h45 := h45 hok
    have hmade := hmade hok
    unfold H45 at h45
    simp only [tradeF, cellsT] at h45
    rw [dealsW, codeT, hok] at h34
    simp only [if_true] at h34
    rw [hok] at h43
    generalize dealsOf t = l at *
    generalize madeOf t = m at *
    have hll := hB.st.len
    have hml := hmade.len
    obtain ⟨v1, c1⟩ := stable_val hok hB.st
    obtain ⟨v2, c2⟩ := stable_val hok hmade
    have e30a := h30 l (.inl (by omega))
    have e30b := h30 m (.inl (by omega))
    have e30c := h30 D (.inr rfl)
    rw [v1, c1] at e30a
    rw [v2, c2] at e30b
    refine ev_seq (ev_reg (by simp [boxA, vcells]; rfl) ?_)  -- region 0
    refine ev_seq (ev_reg (by simp [h34]; rfl) ?_)  -- region 1
    refine ev_seq (ev_seq (ev_reg (by simp [h43]; rfl) ?_))  -- region 2
    refine ev_cond rfl (fun hb => by simp at hb) (fun hb => ?_)  -- 25
    refine ev_skip ?_
    refine ev_seq (ev_reg (by simp [e30a]; rfl) ?_)  -- region 4
    refine ev_seq (ev_reg (by simp [h44]; rfl) ?_)  -- region 5
    refine ev_seq (ev_reg (by simp [e30b]; rfl) ?_)  -- region 6
    refine ev_seq (ev_seq (ev_reg (by simp [hll]; rfl) ?_))  -- region 7
    refine ev_cond rfl (fun hb => by simp at hb) (fun hb => ?_)  -- 75
    refine ev_skip ?_
    refine ev_seq (ev_reg (by simp; rfl) ?_)  -- region 9
    refine ev_seq (ev_seq (ev_reg (by simp [e30c]; rfl) ?_))  -- region 10
    obtain ⟨b, hb⟩ : ∃ b, valS t D = b := ⟨_, rfl⟩
    refine ev_seq (ev_reg (σ' := { env := [(1, V.fv false (FV.sl cl 1 (ints D))), (2, V.ptr 2 0), (5, V.own 5 0 l.length), (12, V.own 12 0 1), (95, V.fv false (.bool b))], blk := [(2, Blk.box [V.fv false (FV.sl t.fc 1 (rowsF t.cu)), V.fv false (FV.sl t.fd 2 (ctrysF t.co))]), (5, Blk.arr 1 (ints l)), (12, Blk.arr 1 [FV.sl false 1 (ints m)])] }) (by
      cases b with
      | true =>
        obtain ⟨hDs, hDc⟩ := val_stable hb
        have hDl : D.length = t.cu.length := hDs.len
        simp [unsetS, hb, hDc, hDl, hll]
      | false =>
        by_cases hc0 : codeS t D = 0
        · simp [unsetS, hb, hc0, hll]
        · have hc1 : (codeS t D == 0) = false := by simpa using hc0
          simp [unsetS, hb, hc1, hll]) ?_)  -- region 11
    have hW1 : [FV.sl false 1 (ints m)] = rowsF [(false, m)] := rfl
    have hW2 : [FV.sl false 1 (ints m), FV.sl cl 1 (ints D)] = rowsF [(false, m), (cl, D)] := rfl
    have hst1 : ∀ p ∈ [((false, m) : Bool × List Int)], StableT t p.2 := fun p hp => by
      simp only [List.mem_singleton] at hp; rw [hp]; exact hmade
    refine ev_cond rfl (fun hb2 => ?_) (fun hb2 => ?_)  -- 95
    subst hb2
    obtain ⟨hDs, hDc⟩ := val_stable hb
    have hst2 : ∀ p ∈ [((false, m) : Bool × List Int), (cl, D)], StableT t p.2 := fun p hp => by
      simp only [List.mem_cons, List.not_mem_nil, or_false] at hp
      rcases hp with rfl | rfl
      · exact hmade
      · exact hDs
    refine ev_reg (by simp; rfl) ?_  -- region 12
    rw [hW2]
    obtain ⟨W, hW⟩ : ∃ W, [((false, m) : Bool × List Int), (cl, D)] = W := ⟨_, rfl⟩
    have hWl : W.length = 2 := by rw [← hW]; rfl
    rw [hW] at hst2 ⊢
    rw [show V.own 12 0 2 = V.own 12 0 W.length from by rw [hWl]]
    have hst := hst2
    clear hst1 hst2 hW1 hW2 hW hb hDs hDc
    rotate_left
    refine ev_skip ?_
    rw [hW1]
    obtain ⟨W, hW⟩ : ∃ W, [((false, m) : Bool × List Int)] = W := ⟨_, rfl⟩
    have hWl : W.length = 1 := by rw [← hW]; rfl
    rw [hW] at hst1 ⊢
    rw [show V.own 12 0 1 = V.own 12 0 W.length from by rw [hWl]]
    have hst := hst1
    clear hst1 hW1 hW2 hW hb hb2
    all_goals
        refine ev_seq (ev_seq (ev_reg (by simp; rfl) ?_))  -- region 13
        refine ev_block ?_  -- 0
        refine ev_loop (fun k : Nat => ({ env := [(2, V.ptr 2 0), (5, V.own 5 0 l.length), (12, V.own 12 0 W.length), (15, V.fv false (FV.int .i64 k))], blk := [(2, Blk.box [V.fv false (FV.sl t.fc 1 (rowsF t.cu)), V.fv false (FV.sl t.fd 2 (ctrysF t.co))]), (5, Blk.arr 1 (ints l)), (12, Blk.arr 1 (rowsF W))] } : St)) (fun k => W.length - k) (fun k => k ≤ W.length) 0 (by simp) (by simp) (by simp [R]; omega) (fun k hk => ?_)
        refine ev_seq (ev_seq (ev_reg (by simp; rfl) ?_))  -- region 14
        refine ev_cond rfl (fun hb => ?_) (fun hb => ?_)  -- 103
        · simp at hb
          have hkW := hb
          have hw1 : IntKind.i64.wrap ((k : Int) + 1) = (k + 1 : Nat) := wrap_nat (n := k + 1) (by omega)
          have hS := hst _ (List.getElem_mem hkW)
          have hSl := hS.len
          obtain ⟨hmany, hsame⟩ := rural hT hB hS
          have hle := hB.best _ hS.fair
          refine ev_skip ?_
          refine ev_seq (ev_block ?_)  -- 1
          refine ev_seq (ev_seq (ev_reg (by simp; rfl) ?_))  -- region 16
          refine ev_block ?_  -- 2
          refine ev_loop (fun i : Nat => ({ env := [(2, V.ptr 2 0), (5, V.own 5 0 l.length), (12, V.own 12 0 W.length), (15, V.fv false (FV.int .i64 k)), (16, V.fv false (FV.int .i64 i))], blk := [(2, Blk.box [V.fv false (FV.sl t.fc 1 (rowsF t.cu)), V.fv false (FV.sl t.fd 2 (ctrysF t.co))]), (5, Blk.arr 1 (ints l)), (12, Blk.arr 1 (rowsF W))] } : St)) (fun i => l.length - i) (fun i => i ≤ l.length) 0 (by simp) (by simp) (by simp [R]; omega) (fun i hi => ?_)
          refine ev_seq (ev_seq (ev_reg (by simp; rfl) ?_))  -- region 17
          refine ev_cond rfl (fun hb => ?_) (fun hb => ?_)  -- 109
          · simp at hb
            have hil := hb
            have hin : i < t.cu.length := by omega
            have hiS : i < W[k].2.length := by omega
            have hw2 : IntKind.i64.wrap ((i : Int) + 1) = (i + 1 : Nat) := wrap_nat (n := i + 1) (by omega)
            have hle := hle i hin
            have hsame := hsame i hin
            obtain ⟨x, hgx, hgx2, hxl, hgx3⟩ := deal_get2 hSl hin
            obtain ⟨y, hgy, hgy2, hyl, hgy3⟩ := deal_get2 hll hin
            rw [hgx, hgy] at hle hsame
            have e45a := h45 i x hin
            have e45b := h45 i y hin
            have hnl : ¬ placeT t i x < placeT t i y := by omega
            have hdx : decide (x < 0) = decide (y < 0) := by rw [Bool.eq_iff_iff]; simpa using hsame
            refine ev_skip ?_
            refine ev_seq (ev_block ?_)  -- 3
            refine ev_seq (ev_drw (σ' := { env := [(2, V.ptr 2 0), (5, V.own 5 0 l.length), (12, V.own 12 0 W.length), (15, V.fv false (FV.int .i64 k)), (16, V.fv false (FV.int .i64 i)), (145, V.fv false (.bool false))], blk := [(2, Blk.box [V.fv false (FV.sl t.fc 1 (rowsF t.cu)), V.fv false (FV.sl t.fd 2 (ctrysF t.co))]), (5, Blk.arr 1 (ints l)), (12, Blk.arr 1 (rowsF W))] }) rfl (by kernel_rfl) (by kernel_rfl) (by simp [unsetS, hkW, rowF, hiS, hxl, hyl, hgx2, hgx3, hgy2, hgy3, e45a, e45b, hnl, hdx]) ?_)  -- region 19
            refine ev_cond rfl (fun hb => by simp at hb) (fun hb => ?_)  -- 145
            refine ev_skip ?_
            refine ev_reg (by simp [hw2]; rfl) ?_  -- region 18
            exact ⟨i + 1, by simp, by omega, by omega⟩
          · simp at hb
            refine ev_exit ?_  -- 2
            refine ev_seq (ev_reg (by simp; rfl) ?_)  -- region 21
            refine ev_block ?_  -- 4
            refine ev_loop (fun c : Nat => ({ env := [(2, V.ptr 2 0), (5, V.own 5 0 l.length), (12, V.own 12 0 W.length), (15, V.fv false (FV.int .i64 k)), (17, V.fv false (FV.int .i64 c))], blk := [(2, Blk.box [V.fv false (FV.sl t.fc 1 (rowsF t.cu)), V.fv false (FV.sl t.fd 2 (ctrysF t.co))]), (5, Blk.arr 1 (ints l)), (12, Blk.arr 1 (rowsF W))] } : St)) (fun c => t.co.length - c) (fun c => c ≤ t.co.length) 0 (by simp) (by simp) (by simp [R]; omega) (fun c hc => ?_)
            refine ev_seq (ev_seq (ev_reg (by simp; rfl) ?_))  -- region 22
            refine ev_cond rfl (fun hb => ?_) (fun hb => ?_)  -- 150
            · simp at hb
              have hcm := hb
              have hw2 : IntKind.i64.wrap ((c : Int) + 1) = (c + 1 : Nat) := wrap_nat (n := c + 1) (by omega)
              have e46a := h46 W[k].2 c (by omega)
              have e46b := h46 l c (by omega)
              have hmm : manyN W[k].2 c = manyN l c := (hmany c hcm).symm
              rw [hmm] at e46a
              refine ev_skip ?_
              refine ev_seq (ev_block ?_)  -- 5
              refine ev_seq (ev_reg (by simp [hkW, rowF, e46a, e46b]; rfl) ?_)  -- region 24
              refine ev_cond rfl (fun hb => by simp at hb) (fun hb => ?_)  -- 162
              refine ev_skip ?_
              refine ev_reg (by simp [hw2]; rfl) ?_  -- region 23
              exact ⟨c + 1, by simp, by omega, by omega⟩
            · simp at hb
              refine ev_exit ?_  -- 4
              refine ev_reg (by simp [hw1]; rfl) ?_  -- region 15
              exact ⟨k + 1, by simp, by omega, by omega⟩
        · simp at hb
          refine ev_exit ?_  -- 0
          refine ev_seq (ev_reg (by simp [h20]; rfl) ?_)  -- region 26
          refine ev_ret ?_
          simp
theorem law11 (t : Trade) (ht : Trade47 t) (D : List Int) (hD : D.length < 2^62) (cl : Bool) : Valid Try.prog 11 [(false, tradeF t), (false, .sl cl 1 (ints D))] [.fv (.bool true)] :=
  v11 _ (fam_ctx [F34, F43, F44, F30, F45, F46, F20]) t D cl (at34 rfl ht) (at43 rfl ht) (fun hok => fam_at (F := F44) rfl ⟨t, okTrade_iff.mp hok⟩ rfl rfl) (fun d hd r2 cl => at30 rfl ht d (hd.elim (fun h => by omega) (fun h => h ▸ hD)) r2 cl) (fun hok => at45 rfl (okTrade_iff.mp hok).row62) (at46 rfl) (fun hok => made_stable (okTrade_iff.mp hok)) (fam_at (F := F20) rfl () rfl rfl)
end Go.Proofs.Ytoafhoihigfllaa.E
