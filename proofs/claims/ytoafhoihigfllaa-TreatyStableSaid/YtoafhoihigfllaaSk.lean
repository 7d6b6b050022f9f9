/-
  The chapter of the treaty: deals by the document: the walk. Conditions: none.
-/
import Derived.Test.YtoafhoihigfllaaSc
import Derived.Test.YtoafhoihigfllaaSf
namespace Go.Proofs.Ytoafhoihigfllaa.E
open Go Go.RowKit
set_option linter.unusedVariables false
set_option linter.unusedSimpArgs false
/-- where the document's asking can be -/
structure DAt (t : Trade) (d : List Int) (q : List Nat) : Prop where
  ex : ∃ a, ReachT t a d ∧ AskTo t a q
  ql : q.length = t.cu.length
  qb : ∀ i, i < t.cu.length → q.getD i 0 ≤ (listAt t i).length
theorem dAt_init (t : Trade) : DAt t (List.replicate t.cu.length (-1)) (List.replicate t.cu.length 0) := by
  refine ⟨⟨[], ReachT.init, askTo_init t⟩, by simp, fun i hi => ?_⟩
  rw [List.getD_eq_getElem?_getD, List.getElem?_replicate, if_pos hi]
  exact Nat.zero_le _
theorem dAt_step {t : Trade} (hT : TradeOk t) {d : List Int} {q : List Nat} (h : DAt t d q) {i : Nat} (hi : i < t.cu.length) (hd : d.getD i 0 < 0) (hq : q.getD i 0 < (listAt t i).length) : ∃ c : Nat, (listAt t i)[q.getD i 0]? = some (c : Int) ∧ c < t.co.length ∧ DAt t (docD t d i c) (q.set i (q.getD i 0 + 1)) := by
  obtain ⟨⟨a, ha, hk⟩, ql, qb⟩ := h
  obtain ⟨c, hc, hcm⟩ := list_nat hT hi (List.getElem_mem hq)
  have hx : (listAt t i)[q.getD i 0]? = some (c : Int) := by rw [List.getElem?_eq_getElem hq, hc]
  obtain ⟨h1, h2, h3⟩ := doc_step hT ha hk ql hi hd hx
  refine ⟨c, hx, hcm, ⟨_, h1, h2⟩, by rw [List.length_set]; exact ql, fun j hj => ?_⟩
  rw [getD_setN (by omega)]
  split
  · rename_i e; subst e; exact hq
  · exact qb j hj
theorem dAt_sum {t : Trade} (hT : TradeOk t) {d : List Int} {q : List Nat} (h : DAt t d q) : sumTo (fun c => q.getD c 0) t.cu.length ≤ 40 := by
  have h1 : sumTo (fun c => q.getD c 0) t.cu.length ≤ t.cu.length * 5 := sumTo_bound fun i hi => by
    have := h.qb i hi
    have := hT.row i
    have := hT.m
    omega
  have := hT.n
  omega
theorem dAt_len {t : Trade} {d : List Int} {q : List Nat} (h : DAt t d q) : d.length = t.cu.length := by
  obtain ⟨⟨a, ha, _⟩, _⟩ := h
  exact reach_length ha
theorem dAt_done {t : Trade} (hT : TradeOk t) {d : List Int} {q : List Nat} (h : DAt t d q) (hall : ∀ i, i < t.cu.length → d.getD i 0 < 0 → q.getD i 0 = (listAt t i).length) : d = dealsOf t := by
  obtain ⟨⟨a, ha, hk⟩, _⟩ := h
  exact dealsOf_eq hT ha (doc_done hk hall)
theorem v35r (ctx : Ctx) (hC : CtxOk (pg ctx)) (t : Trade) (r1 : Bool) (h33 : ctx 33 [(r1, tradeF t)] = some [.fv (.int .i64 102)]) :
    Valid Try.prog 35 [(r1, tradeF t)] [.us 1 [], .fv (.int .i64 102)] := by
  refine valid_of_ev (G := pg ctx) (tok ctx) hC mixed Try.func35 T35 L35 (by simp [Try.ntmps35]) ⟨_, rfl, ?_⟩
  simp only [tradeF, cellsT] at h33
  simp only [Try.ntmps35, Try.results35, initSt, initEnv, tradeF, cellsT]
  refine ev_seq (ev_reg (by simp [boxA, vcells]; rfl) ?_)  -- region 0
  refine ev_seq (ev_seq (ev_reg (by simp [h33]; rfl) ?_))  -- region 1
  refine ev_seq (ev_reg (by simp; rfl) ?_)  -- region 2
  refine ev_cond rfl (fun hb => ?_) (fun hb => by simp at hb)  -- 15
  refine ev_seq (ev_reg (by simp; rfl) ?_)  -- region 3
  refine ev_ret ?_
  simp
theorem v35 (ctx : Ctx) (hC : CtxOk (pg ctx)) (t : Trade) (hT : TradeOk t) (r1 : Bool) (h33 : ctx 33 [(r1, tradeF t)] = some [.fv (.int .i64 0)]) (h73 : H73 ctx t) :
    Valid Try.prog 35 [(r1, tradeF t)] [.us 1 (ints (dealsOf t)), .fv (.int .i64 0)] := by
  refine valid_of_ev (G := pg ctx) (tok ctx) hC mixed Try.func35 T35 L35 (by simp [Try.ntmps35]) ⟨_, rfl, ?_⟩
  unfold H73 at h73
  simp only [tradeF, cellsT] at h33 h73
  simp only [Try.ntmps35, Try.results35, initSt, initEnv, tradeF, cellsT]
  have hn := hT.n
  have hm := hT.m
  have hb1 : 8 * (t.cu.length : Int) ≤ 281474976710656 := by omega
  have hb2 : (t.cu.length : Int) ≤ 9223372036854775807 := by omega
  refine ev_seq (ev_reg (by simp [boxA, vcells]; rfl) ?_)  -- region 0
  refine ev_seq (ev_seq (ev_reg (by simp [h33]; rfl) ?_))  -- region 1
  refine ev_seq (ev_reg (by simp; rfl) ?_)  -- region 2
  refine ev_cond rfl (fun hb => by simp at hb) (fun hb => ?_)  -- 15
  refine ev_skip ?_
  refine ev_seq (ev_drw rfl (by kernel_rfl) (by kernel_rfl) (by simp [hb1, hb2]; rfl) ?_)  -- region 4
  have hz := nn_zero t.cu.length
  have hz2 := fillN_zero t.cu.length
  refine ev_seq (ev_seq (ev_reg (by simp; rfl) ?_))  -- region 5
  refine ev_block ?_  -- 0
  refine ev_loop (fun j : Nat => ({ env := [(1, V.ptr 1 0), (5, V.own 20 0 t.cu.length), (6, V.own 24 0 t.cu.length), (7, V.fv false (FV.int .i64 j))], blk := [(1, Blk.box [V.fv r1 (FV.sl t.fc 1 (rowsF t.cu)), V.fv r1 (FV.sl t.fd 2 (ctrysF t.co))]), (20, Blk.arr 1 (ints (nn (List.replicate t.cu.length 0)))), (24, Blk.arr 1 (ints (fillN t.cu.length j)))] } : St)) (fun j => t.cu.length - j) (fun j => j ≤ t.cu.length) 0 (by simp [← hz, ← hz2]) (by simp) (by simp [R]; omega) (fun j hj => ?_)
  refine ev_seq (ev_seq (ev_reg (by simp; rfl) ?_))  -- region 6
  refine ev_cond rfl (fun hb => ?_) (fun hb => ?_)  -- 28
  · simp at hb
    have hw1 : IntKind.i64.wrap ((j : Int) + 1) = (j + 1 : Nat) := wrap_nat (n := j + 1) (by omega)
    obtain ⟨ox, hox⟩ : ∃ ox, (fillN t.cu.length j)[j]? = some ox := ⟨_, List.getElem?_eq_getElem (by simpa using hb)⟩
    have hset := fillN_set hb
    refine ev_skip ?_
    refine ev_seq (ev_block ?_)  -- 1
    refine ev_reg (by simp [hb, hox]; rfl) ?_  -- region 8
    rw [hset]
    refine ev_reg (by simp [hw1]; rfl) ?_  -- region 7
    exact ⟨j + 1, by simp, by omega, by omega⟩
  · simp at hb
    have hjn : j = t.cu.length := by omega
    subst hjn
    rw [fillN_all]
    refine ev_exit ?_  -- 0
    refine ev_seq (ev_seq (ev_reg (by simp; rfl) ?_))  -- region 9
    refine ev_block ?_  -- 2
    refine ev_loop (fun x : (List Int × List Nat) × Nat => ({ env := [(1, V.ptr 1 0), (5, V.own 20 0 x.1.2.length), (6, V.own 24 0 x.1.1.length), (8, V.fv false (FV.int .i64 x.2))], blk := [(1, Blk.box [V.fv r1 (FV.sl t.fc 1 (rowsF t.cu)), V.fv r1 (FV.sl t.fd 2 (ctrysF t.co))]), (20, Blk.arr 1 (ints (nn x.1.2))), (24, Blk.arr 1 (ints x.1.1))] } : St)) (fun x => (40 - sumTo (fun c => x.1.2.getD c 0) t.cu.length) * 64 + (t.cu.length - x.2)) (fun x => DAt t x.1.1 x.1.2 ∧ x.2 ≤ t.cu.length ∧ ∀ j, j < x.2 → x.1.1.getD j 0 < 0 → x.1.2.getD j 0 = (listAt t j).length) ((List.replicate t.cu.length (-1), List.replicate t.cu.length 0), 0) (by simp) ⟨dAt_init t, Nat.zero_le _, fun j hj => absurd hj (Nat.not_lt_zero j)⟩ (by simp [R]; omega) (fun x hx => ?_)
    obtain ⟨⟨d, q⟩, k⟩ := x
    obtain ⟨hA, hk, hbef⟩ := hx
    simp only at hA hk hbef
    have hdl := dAt_len hA
    have hql := hA.ql
    refine ev_seq (ev_seq (ev_reg (by simp; rfl) ?_))  -- region 10
    refine ev_cond rfl (fun hb => ?_) (fun hb => ?_)  -- 37
    · simp at hb
      have hkd := hb
      have hbk : k < t.cu.length := by omega
      have hkq : k < q.length := by omega
      have hw1 : IntKind.i64.wrap ((k : Int) + 1) = (k + 1 : Nat) := wrap_nat (n := k + 1) (by omega)
      have hg : t.cu[k].2 = listAt t k := (listAt_get hbk).symm
      obtain ⟨x, hgx, hgx2, hxl, hgx3⟩ := deal_get2 hdl hbk
      obtain ⟨Q, hQ⟩ : ∃ Q, q.getD k 0 = Q := ⟨_, rfl⟩
      have hQ3 : q[k] = Q := by rw [← hQ]; simp [List.getD_eq_getElem?_getD, List.getElem?_eq_getElem hkq]
      have hQ2 : (nn q)[k]? = some (Q : Int) := by rw [List.getElem?_eq_getElem (by simpa using hkq), nn_get, hQ3]
      have hQb := hA.qb k hbk
      rw [hQ] at hQb
      have hqq : q.length = d.length := by omega
      refine ev_skip ?_
      refine ev_seq (ev_block ?_)  -- 3
      by_cases hstop : 0 ≤ x ∨ Q = (listAt t k).length
      · refine ev_seq (ev_seq (ev_drw (σ' := { env := [(1, V.ptr 1 0), (5, V.own 20 0 q.length), (6, V.own 24 0 d.length), (8, V.fv false (FV.int .i64 k)), (57, V.fv false (.bool true))], blk := [(1, Blk.box [V.fv r1 (FV.sl t.fc 1 (rowsF t.cu)), V.fv r1 (FV.sl t.fd 2 (ctrysF t.co))]), (20, Blk.arr 1 (ints (nn q))), (24, Blk.arr 1 (ints d))] }) rfl (by kernel_rfl) (by kernel_rfl) (by
          by_cases h0 : 0 ≤ x
          · simp [unsetS, hkd, hgx2, hgx3, h0]
          · have h1 := hstop.resolve_left h0
            simp [unsetS, hkd, hkq, hbk, hgx2, hgx3, h0, hQ2, hQ3, rowF, hg, h1]) ?_))  -- region 12
        refine ev_cond rfl (fun hb => ?_) (fun hb => by simp at hb)  -- 57
        refine ev_exit ?_  -- 3
        refine ev_reg (by simp [hw1]; rfl) ?_  -- region 11
        refine ⟨((d, q), k + 1), by simp, ⟨hA, by simp only; omega, fun j hj hneg => ?_⟩, by simp only; omega⟩
        simp only at hj hneg ⊢
        by_cases e : j = k
        · subst e
          rw [hgx] at hneg
          rw [hQ]
          exact hstop.resolve_left (by omega)
        · exact hbef j (by omega) hneg
      · have h0 : ¬ 0 ≤ x := fun h => hstop (.inl h)
        have h1 : ¬ Q = (listAt t k).length := fun h => hstop (.inr h)
        have h2 : ¬ (Q : Int) = (listAt t k).length := by omega
        have hQlt : q.getD k 0 < (listAt t k).length := by omega
        obtain ⟨c, hc, hcm, hnext⟩ := dAt_step hT hA hbk (by rw [hgx]; omega) hQlt
        have hs40 := dAt_sum hT hnext
        rw [sumTo_set hbk (by omega)] at hs40
        rw [hQ] at hc hnext
        have hcl := (List.getElem?_eq_some_iff.mp hc)
        obtain ⟨hcl, hc3⟩ := hcl
        have hw2 : IntKind.i64.wrap ((Q : Int) + 1) = (Q + 1 : Nat) := wrap_nat (n := Q + 1) (by have := hT.row k; omega)
        have hdl2 : (d.set k (c : Int)).length = t.cu.length := by rw [List.length_set]; exact hdl
        have e73 := h73 (d.set k (c : Int)) c hdl2 hcm
        have hroom := roomAt_get hcm
        have hmeas : sumTo (fun j => (q.set k (Q + 1)).getD j 0) t.cu.length = sumTo (fun j => q.getD j 0) t.cu.length + 1 := by rw [← hQ]; exact sumTo_set hbk (by omega)
        refine ev_seq (ev_seq (ev_drw (σ' := { env := [(1, V.ptr 1 0), (5, V.own 20 0 q.length), (6, V.own 24 0 d.length), (8, V.fv false (FV.int .i64 k)), (57, V.fv false (.bool false))], blk := [(1, Blk.box [V.fv r1 (FV.sl t.fc 1 (rowsF t.cu)), V.fv r1 (FV.sl t.fd 2 (ctrysF t.co))]), (20, Blk.arr 1 (ints (nn q))), (24, Blk.arr 1 (ints d))] }) rfl (by kernel_rfl) (by kernel_rfl) (by
          simp [unsetS, hkd, hkq, hbk, hgx2, hgx3, h0, hQ2, hQ3, rowF, hg, h1, h2]) ?_))  -- region 12
        refine ev_cond rfl (fun hb => by simp at hb) (fun hb => ?_)  -- 57
        refine ev_skip ?_
        refine ev_seq (ev_drw rfl (by kernel_rfl) (by kernel_rfl) (by simp [hkd, hkq, hbk, hQ2, hQ3, rowF, hg, hcl, hc, hc3]; rfl) ?_)  -- region 13
        refine ev_seq (ev_reg (by simp [hkq, hQ2, hQ3, hw2]; rfl) ?_)  -- region 14
        rw [show ((Q : Int) + 1) = ((Q + 1 : Nat) : Int) from rfl, nn_set]
        refine ev_seq (ev_reg (by simp [hkd, hgx2, hgx3]; rfl) ?_)  -- region 15
        obtain ⟨D, hD⟩ : ∃ D, d.set k (c : Int) = D := ⟨_, rfl⟩
        have hDl : D.length = d.length := by rw [← hD, List.length_set]
        rw [hD] at e73 ⊢
        rw [show V.own 24 0 d.length = V.own 24 0 D.length from by rw [hDl]]
        have hdoc : docD t d k c = if roomAt t c < ((sellN D c).length : Int) then D.set (leastN t D c).toNat (-1) else D := by rw [docD, hD]
        refine ev_seq (ev_seq (ev_reg (by simp [e73]; rfl) ?_))  -- region 16
        have hw0 : IntKind.i64.wrap 0 = 0 := by decide
        by_cases hgt : roomAt t c < ((sellN D c).length : Int)
        · rw [hdoc, if_pos hgt] at hnext
          have hr0 := (hT.room c hcm).1
          have hpos : 0 < (sellN D c).length := by omega
          have hls : leastN t D c = (worstN t c (sellN D c) : Nat) := by rw [leastN, if_neg (by omega)]
          have hwl : worstN t c (sellN D c) < D.length := worst_lt (fun x hx => sell_lt hx) (by omega)
          rw [hls, Int.toNat_natCast] at hnext
          rw [hls]
          rw [hroom] at hgt
          generalize worstN t c (sellN D c) = w at *
          obtain ⟨y, hy⟩ : ∃ y, D[w]? = some y := ⟨_, List.getElem?_eq_getElem hwl⟩
          refine ev_seq (ev_reg (by simp [hcm, ctryF, hgt]; rfl) ?_)  -- region 17
          refine ev_cond rfl (fun hb => ?_) (fun hb => by simp at hb)  -- 93
          refine ev_reg (by simp [hwl, hy]; rfl) ?_  -- region 18
          refine ev_reg (by simp; rfl) ?_  -- region 19
          refine ev_reg (by simp [hw0]; rfl) ?_  -- region 11
          exact ⟨((D.set w (-1), q.set k (Q + 1)), 0), by simp, ⟨hnext, Nat.zero_le _, fun j hj => absurd hj (Nat.not_lt_zero j)⟩, by simp only; rw [hmeas]; omega⟩
        · rw [hdoc, if_neg hgt] at hnext
          rw [hroom] at hgt
          refine ev_seq (ev_reg (by simp [hcm, ctryF, hgt]; rfl) ?_)  -- region 17
          refine ev_cond rfl (fun hb => by simp at hb) (fun hb => ?_)  -- 93
          refine ev_skip ?_
          refine ev_reg (by simp; rfl) ?_  -- region 19
          refine ev_reg (by simp [hw0]; rfl) ?_  -- region 11
          exact ⟨((D, q.set k (Q + 1)), 0), by simp, ⟨hnext, Nat.zero_le _, fun j hj => absurd hj (Nat.not_lt_zero j)⟩, by simp only; rw [hmeas]; omega⟩
    · simp at hb
      have hfin := dAt_done hT hA (fun i hi => hbef i (by omega))
      refine ev_exit ?_  -- 2
      refine ev_seq (ev_reg (by simp; rfl) ?_)  -- region 20
      refine ev_ret ?_
      simp [hfin]
end Go.Proofs.Ytoafhoihigfllaa.E
