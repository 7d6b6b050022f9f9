/-
  The chapter of the treaty: the deals that countries make: the walk. Conditions: none.
-/
import Derived.Test.YtoafhoihigfllaaSe
import Derived.Test.YtoafhoihigfllaaRm
namespace Go.Proofs.Ytoafhoihigfllaa.E
open Go Go.RowKit
set_option linter.unusedVariables false
set_option linter.unusedSimpArgs false
theorem deal_get2 {n : Nat} {d : List Int} (h : d.length = n) {i : Nat} (hi : i < n) : ∃ x, d.getD i 0 = x ∧ d[i]? = some x ∧ ∃ h : i < d.length, d[i] = x := by
  have hl : i < d.length := by omega
  exact ⟨d[i], by simp [List.getD_eq_getElem?_getD, List.getElem?_eq_getElem hl], List.getElem?_eq_getElem hl, hl, rfl⟩
theorem nn_set (q : List Nat) (k x : Nat) : (nn q).set k (x : Int) = nn (q.set k x) := by
  simp [nn, List.map_set]
theorem nn_zero (n : Nat) : List.replicate n (FV.int .i64 0) = ints (nn (List.replicate n 0)) := by
  rw [ints_zero]; simp [nn]
theorem v44 (ctx : Ctx) (hC : CtxOk (pg ctx)) (t : Trade) (hT : TradeOk t) (h45 : H45 ctx t) (h46 : H46 ctx) :
    Valid Try.prog 44 [(false, tradeF t)] [.us 1 (ints (madeOf t))] := by
  refine valid_of_ev (G := pg ctx) (tok ctx) hC mixed Try.func44 T44 L44 (by simp [Try.ntmps44]) ⟨_, rfl, ?_⟩
  unfold H45 at h45
  simp only [tradeF, cellsT] at h45
  simp only [Try.ntmps44, Try.results44, initSt, initEnv, tradeF, cellsT]
  have hn := hT.n
  have hm := hT.m
  have hb1 : 8 * (t.cu.length : Int) ≤ 281474976710656 := by omega
  have hb2 : (t.cu.length : Int) ≤ 9223372036854775807 := by omega
  have hb3 : 8 * (t.co.length : Int) ≤ 281474976710656 := by omega
  have hb4 : (t.co.length : Int) ≤ 9223372036854775807 := by omega
  refine ev_seq (ev_reg (by simp [boxA, vcells]; rfl) ?_)  -- region 0
  refine ev_seq (ev_reg (by simp [hb1, hb2, fillN_zero]; rfl) ?_)  -- region 1
  refine ev_seq (ev_reg (by simp [hb3, hb4, nn_zero]; rfl) ?_)  -- region 2
  refine ev_seq (ev_seq (ev_reg (by simp; rfl) ?_))  -- region 3
  refine ev_block ?_  -- 0
  refine ev_loop (fun j : Nat => ({ env := [(1, V.ptr 1 0), (3, V.own 3 0 t.cu.length), (4, V.own 4 0 t.co.length), (5, V.fv false (FV.int .i64 j))], blk := [(1, Blk.box [V.fv false (FV.sl t.fc 1 (rowsF t.cu)), V.fv false (FV.sl t.fd 2 (ctrysF t.co))]), (3, Blk.arr 1 (ints (fillN t.cu.length j))), (4, Blk.arr 1 (ints (nn (List.replicate t.co.length 0))))] } : St)) (fun j => t.cu.length - j) (fun j => j ≤ t.cu.length) 0 (by simp) (by simp) (by simp [R]; omega) (fun j hj => ?_)
  refine ev_seq (ev_seq (ev_reg (by simp; rfl) ?_))  -- region 4
  refine ev_cond rfl (fun hb => ?_) (fun hb => ?_)  -- 20
  · simp at hb
    have hw1 : IntKind.i64.wrap ((j : Int) + 1) = (j + 1 : Nat) := wrap_nat (n := j + 1) (by omega)
    obtain ⟨ox, hox⟩ : ∃ ox, (fillN t.cu.length j)[j]? = some ox := ⟨_, List.getElem?_eq_getElem (by simpa using hb)⟩
    have hset := fillN_set hb
    refine ev_skip ?_
    refine ev_seq (ev_block ?_)  -- 1
    refine ev_reg (by simp [hb, hox]; rfl) ?_  -- region 6
    rw [hset]
    refine ev_reg (by simp [hw1]; rfl) ?_  -- region 5
    exact ⟨j + 1, by simp, by omega, by omega⟩
  · simp at hb
    have hjn : j = t.cu.length := by omega
    subst hjn
    rw [fillN_all]
    refine ev_exit ?_  -- 0
    refine ev_seq (ev_seq (ev_reg (by simp; rfl) ?_))  -- region 7
    refine ev_block ?_  -- 2
    refine ev_loop (fun x : (Nat × List Int × List Nat) × Nat => ({ env := [(1, V.ptr 1 0), (3, V.own 3 0 x.1.2.1.length), (4, V.own 4 0 x.1.2.2.length), (6, V.fv false (FV.int .i64 x.2))], blk := [(1, Blk.box [V.fv false (FV.sl t.fc 1 (rowsF t.cu)), V.fv false (FV.sl t.fd 2 (ctrysF t.co))]), (3, Blk.arr 1 (ints x.1.2.1)), (4, Blk.arr 1 (ints (nn x.1.2.2)))] } : St)) (fun x => (40 - x.1.1) * 64 + (t.co.length - x.2)) (fun x => MAt t x.1.1 x.1.2.1 x.1.2.2 ∧ x.2 ≤ t.co.length ∧ ∀ j, j < x.2 → mReady t x.1.2.1 x.1.2.2 j = false) ((0, List.replicate t.cu.length (-1), List.replicate t.co.length 0), 0) (by simp) ⟨mAt_init hT, Nat.zero_le _, fun j hj => absurd hj (Nat.not_lt_zero j)⟩ (by simp [R]; omega) (fun x hx => ?_)
    obtain ⟨⟨N, d, q⟩, k⟩ := x
    obtain ⟨hA, hk, hbef⟩ := hx
    simp only at hA hk hbef
    have hdl := hA.inv.dl
    have hql := hA.inv.ql
    refine ev_seq (ev_seq (ev_reg (by simp; rfl) ?_))  -- region 8
    refine ev_cond rfl (fun hb => ?_) (fun hb => ?_)  -- 29
    · simp at hb
      have hkq := hb
      have hb : k < t.co.length := by omega
      have hw1 : IntKind.i64.wrap ((k : Int) + 1) = (k + 1 : Nat) := wrap_nat (n := k + 1) (by omega)
      have e46 := h46 d k (by omega)
      have hroom := roomAt_get hb
      have hlks := likesAt_get hb
      have hll := (hT.likes k hb).len
      obtain ⟨Q, hQ⟩ : ∃ Q, q.getD k 0 = Q := ⟨_, rfl⟩
      have hQ2 : (nn q)[k]? = some (Q : Int) := by rw [List.getElem?_eq_getElem (by simpa using hkq), nn_get, ← hQ]; simp [List.getD_eq_getElem?_getD, List.getElem?_eq_getElem hkq]
      have hQ3 : q[k] = Q := by rw [← hQ]; simp [List.getD_eq_getElem?_getD, List.getElem?_eq_getElem hkq]
      have hQn : Q ≤ t.cu.length := by rw [← hQ]; exact hA.inv.qn k hb
      have hr : mReady t d q k = (decide ((manyN d k : Int) < t.co[k].1) && decide (Q < t.cu.length)) := by rw [mReady, hQ, hll, hroom]; rfl
      rw [hlks, ← hdl] at hll
      refine ev_skip ?_
      refine ev_seq (ev_block ?_)  -- 3
      refine ev_seq (ev_reg (by simp [hb, ctryF, boxA, vcells]; rfl) ?_)  -- region 10
      cases hrd : mReady t d q k with
      | false =>
        rw [hr] at hrd
        refine ev_seq (ev_seq (ev_drw (σ' := { env := [(1, V.ptr 1 0), (3, V.own 3 0 d.length), (4, V.own 4 0 q.length), (6, V.fv false (FV.int .i64 k)), (7, V.ptr 7 0), (52, V.fv false (.bool true))], blk := [(1, Blk.box [V.fv false (FV.sl t.fc 1 (rowsF t.cu)), V.fv false (FV.sl t.fd 2 (ctrysF t.co))]), (3, Blk.arr 1 (ints d)), (4, Blk.arr 1 (ints (nn q))), (7, Blk.box [V.fv false (FV.int .i64 t.co[k].1), V.fv false (FV.sl t.co[k].2.1 1 (ints t.co[k].2.2))])] }) rfl (by kernel_rfl) (by kernel_rfl) (by
          by_cases h1 : t.co[k].1 ≤ (manyN d k : Int)
          · simp [unsetS, e46, ← hdl, ← hql, hkq, h1, hb, hQ2, hQ3, hll]
          · have h2 : Q = d.length := by
              simp only [Bool.and_eq_false_iff, decide_eq_false_iff_not] at hrd
              omega
            simp [unsetS, e46, ← hdl, ← hql, hkq, h1, hb, hQ2, hQ3, hll, h2]) ?_))  -- region 11
        refine ev_cond rfl (fun hb => ?_) (fun hb => by simp at hb)  -- 52
        refine ev_exit ?_  -- 3
        refine ev_reg (by simp [hw1]; rfl) ?_  -- region 9
        refine ⟨((N, d, q), k + 1), by simp, ⟨hA, by simp only; omega, fun j hj => ?_⟩, by simp only; omega⟩
        simp only at hj ⊢
        by_cases e : j = k
        · subst e; rw [hr]; exact hrd
        · exact hbef j (by omega)
      | true =>
        have hnext := mAt_next hT hA hb hrd hbef
        rw [hr] at hrd
        simp only [Bool.and_eq_true, decide_eq_true_eq] at hrd
        obtain ⟨hr1, hr2⟩ := hrd
        obtain ⟨hwh, hwn, -⟩ := mWho_at hT hb (q := q) (by rw [hQ]; exact hr2)
        have hN := mAt_le hT hnext
        simp only [mNext, hQ] at hnext
        rw [hQ, hlks] at hwh
        obtain ⟨w, hw⟩ : ∃ w, mWho t q k = w := ⟨_, rfl⟩
        rw [hw] at hwh hwn hnext
        obtain ⟨hwl, hwh3⟩ := List.getElem?_eq_some_iff.mp hwh
        obtain ⟨y, hgy, hgy2, hyl, hgy3⟩ := deal_get2 hdl hwn
        rw [hgy] at hnext
        have e1 := h45 w k hwn
        have e2 := h45 w y hwn
        have hw2 : IntKind.i64.wrap ((Q : Int) + 1) = (Q + 1 : Nat) := wrap_nat (n := Q + 1) (by omega)
        have hn1 : ¬ t.co[k].1 ≤ (manyN d k : Int) := by omega
        have hn2 : ¬ (Q = d.length) := by omega
        have hn3 : ¬ ((Q : Int) = d.length) := by omega
        refine ev_seq (ev_seq (ev_drw (σ' := { env := [(1, V.ptr 1 0), (3, V.own 3 0 d.length), (4, V.own 4 0 q.length), (6, V.fv false (FV.int .i64 k)), (7, V.ptr 7 0), (52, V.fv false (.bool false))], blk := [(1, Blk.box [V.fv false (FV.sl t.fc 1 (rowsF t.cu)), V.fv false (FV.sl t.fd 2 (ctrysF t.co))]), (3, Blk.arr 1 (ints d)), (4, Blk.arr 1 (ints (nn q))), (7, Blk.box [V.fv false (FV.int .i64 t.co[k].1), V.fv false (FV.sl t.co[k].2.1 1 (ints t.co[k].2.2))])] }) rfl (by kernel_rfl) (by kernel_rfl) (by
          simp [unsetS, e46, ← hdl, ← hql, hkq, hn1, hb, hQ2, hQ3, hll, hn2, hn3]) ?_))  -- region 11
        refine ev_cond rfl (fun hb => by simp at hb) (fun hb => ?_)  -- 52
        refine ev_skip ?_
        refine ev_seq (ev_drw rfl (by kernel_rfl) (by kernel_rfl) (by simp [← hql, hkq, hb, hQ2, hQ3, hwl, hwh, hwh3]; rfl) ?_)  -- region 12
        refine ev_seq (ev_reg (by simp [← hql, hkq, hb, hQ2, hQ3, hw2]; rfl) ?_)  -- region 13
        rw [show ((Q : Int) + 1) = ((Q + 1 : Nat) : Int) from rfl, nn_set]
        have hw0 : IntKind.i64.wrap 0 = 0 := by decide
        by_cases hlt : placeT t w k < placeT t w y
        · rw [if_pos hlt] at hnext
          refine ev_seq (ev_seq (ev_drw rfl (by kernel_rfl) (by kernel_rfl) (by simp [e1, e2, hyl, hgy2, hgy3, hlt]; rfl) ?_))  -- region 14
          refine ev_cond rfl (fun hb => ?_) (fun hb => by simp at hb)  -- 78
          refine ev_reg (by simp [hyl, hgy2, hgy3]; rfl) ?_  -- region 15
          refine ev_reg (by simp; rfl) ?_  -- region 16
          refine ev_reg (by simp [hw0]; rfl) ?_  -- region 9
          exact ⟨((N + 1, d.set w k, q.set k (Q + 1)), 0), by simp, ⟨hnext, Nat.zero_le _, fun j hj => absurd hj (Nat.not_lt_zero j)⟩, by simp only; omega⟩
        · rw [if_neg hlt] at hnext
          refine ev_seq (ev_seq (ev_drw rfl (by kernel_rfl) (by kernel_rfl) (by simp [e1, e2, hyl, hgy2, hgy3, hlt]; rfl) ?_))  -- region 14
          refine ev_cond rfl (fun hb => by simp at hb) (fun hb => ?_)  -- 78
          refine ev_skip ?_
          refine ev_reg (by simp; rfl) ?_  -- region 16
          refine ev_reg (by simp [hw0]; rfl) ?_  -- region 9
          exact ⟨((N + 1, d, q.set k (Q + 1)), 0), by simp, ⟨hnext, Nat.zero_le _, fun j hj => absurd hj (Nat.not_lt_zero j)⟩, by simp only; omega⟩
    · simp at hb
      have hkm : k = t.co.length := by omega
      obtain ⟨hfin, hst⟩ := mAt_stable hT hA (fun j hj => hbef j (by omega))
      refine ev_exit ?_  -- 2
      refine ev_seq (ev_reg (by simp; rfl) ?_)  -- region 17
      refine ev_ret ?_
      simp [hfin]
end Go.Proofs.Ytoafhoihigfllaa.E
