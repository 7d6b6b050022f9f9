/-
  The chapter of the treaty: Stable by the program: how much a curer wants a country; what may be asked: walks. Conditions: none.
-/
import Derived.Test.YtoafhoihigfllaaSj
namespace Go.Proofs.Ytoafhoihigfllaa.E
open Go Go.RowKit
set_option linter.unusedVariables false
set_option linter.unusedSimpArgs false
theorem v83 (ctx : Ctx) (hC : CtxOk (pg ctx)) (h78 : H78 ctx) (t : Trade) (i : Nat) (c : Int) (hi : i < t.cu.length) (hl : (listAt t i).length < 2^62) (q1 q2 : Bool) :
    Valid Try.prog 83 [(q1, .agg [.int .i64 i, .int .i64 c]), (q2, .pt (cellsT t) 0)] [.fv (.int .i64 (idx (· == c) (listAt t i)))] := by
  refine valid_of_ev (G := pg ctx) (tok ctx) hC mixed Try.func83 T83 L83 (by simp [Try.ntmps83]) ⟨_, rfl, ?_⟩
  simp only [Try.ntmps83, Try.results83, initSt, initEnv, cellsT]
  have e78 := h78 (listAt t i) c hl
  generalize idx (· == c) (listAt t i) = z at *
  rw [listAt_get hi] at e78
  refine ev_seq (ev_reg (by simp [boxA, vcells]; rfl) ?_)  -- region 0
  refine ev_seq (ev_drw rfl (by kernel_rfl) (by kernel_rfl) (by simp [hi, rowF, e78]; rfl) ?_)  -- region 1
  refine ev_ret ?_
  simp
theorem v67 (ctx : Ctx) (hC : CtxOk (pg ctx)) (t : Trade) : Valid Try.prog 67 [(false, tradeF t)] [.fv (.agg [.fn (.func 83) [] [.pt (cellsT t) 0]])] := by
  refine valid_of_ev (G := pg ctx) (tok ctx) hC mixed Try.func67 T67 L67 (by simp [Try.ntmps67]) ⟨_, rfl, ?_⟩
  simp only [Try.ntmps67, Try.results67, initSt, initEnv, tradeF, cellsT]
  refine ev_seq (ev_reg (by simp [boxA, vcells]; rfl) ?_)  -- region 0
  refine ev_seq (ev_reg (by simp; rfl) ?_)  -- region 1
  refine ev_ret ?_
  simp
def badD (m : Nat) (x : Int) : Bool := !goodD m x
theorem v66 (ctx : Ctx) (hC : CtxOk (pg ctx)) (h51 : H51 ctx) (t : Trade) (hm : t.co.length < 2^62) (x : Int) (q1 q2 : Bool) :
    Valid Try.prog 66 [(q1, .int .i64 x), (q2, .pt (cellsT t) 0)] [.fv (.bool (badD t.co.length x))] := by
  refine valid_of_ev (G := pg ctx) (tok ctx) hC mixed Try.func66 T66 L66 (by simp [Try.ntmps66]) ⟨_, rfl, ?_⟩
  simp only [Try.ntmps66, Try.results66, initSt, initEnv, cellsT]
  have hw3 : IntKind.i64.wrap ((t.co.length : Int) - 1) = (t.co.length : Int) - 1 := wrap_id (by omega) (by omega)
  have e51 : ∀ r1 r2 r3, ctx 51 [(r1, .int .i64 x), (r2, .int .i64 (-1)), (r3, .int .i64 ((t.co.length : Int) - 1))] = some [.fv (.bool (goodD t.co.length x))] := fun r1 r2 r3 => h51 r1 r2 r3 _ _ _
  unfold badD
  generalize goodD t.co.length x = P at *
  refine ev_seq (ev_reg (by simp; rfl) ?_)  -- region 0
  refine ev_seq (ev_reg (by simp [hw3, e51]; rfl) ?_)  -- region 1
  refine ev_ret ?_
  simp
def H67 (ctx : Ctx) (t : Trade) : Prop := ctx 67 [(false, tradeF t)] = some [.fv (.agg [.fn (.func 83) [] [.pt (cellsT t) 0]])]
def H83 (ctx : Ctx) (t : Trade) : Prop := ∀ (i : Nat) (c : Int), i < t.cu.length → ∀ q1 q2 : Bool, ctx 83 [(q1, .agg [.int .i64 i, .int .i64 c]), (q2, .pt (cellsT t) 0)] = some [.fv (.int .i64 (idx (· == c) (listAt t i)))]
theorem mem_before {th : Int} : ∀ {l : List Int}, l.Nodup → ∀ {x : Int}, (x ∈ before th l ↔ x ∈ l ∧ ((th ∈ l → ∃ k j : Nat, l[k]? = some x ∧ l[j]? = some th ∧ k < j)))
  | [], _, x => by simp [before]
  | y :: l, hn, x => by
    rw [List.nodup_cons] at hn
    have ih := mem_before (th := th) hn.2 (x := x)
    rw [before]
    by_cases e : y = th
    · rw [if_pos e]
      simp only [List.not_mem_nil, false_iff]
      rintro ⟨h1, h2⟩
      obtain ⟨k, j, h3, h4, h5⟩ := h2 (e ▸ List.mem_cons_self)
      cases j with
      | zero => omega
      | succ j =>
        rw [List.getElem?_cons_succ] at h4
        exact hn.1 (e ▸ List.mem_of_getElem? h4)
    · rw [if_neg e, List.mem_cons, List.mem_cons, ih]
      constructor
      · rintro (rfl | ⟨h1, h2⟩)
        · refine ⟨.inl rfl, fun h3 => ?_⟩
          rcases List.mem_cons.mp h3 with h4 | h4
          · exact absurd h4.symm e
          · obtain ⟨j, hj⟩ := List.mem_iff_getElem?.mp h4
            exact ⟨0, j + 1, rfl, by rw [List.getElem?_cons_succ]; exact hj, by omega⟩
        · refine ⟨.inr h1, fun h3 => ?_⟩
          rcases List.mem_cons.mp h3 with h4 | h4
          · exact absurd h4.symm e
          · obtain ⟨k, j, h5, h6, h7⟩ := h2 h4
            exact ⟨k + 1, j + 1, by rw [List.getElem?_cons_succ]; exact h5, by rw [List.getElem?_cons_succ]; exact h6, by omega⟩
      · rintro ⟨h1, h2⟩
        by_cases e2 : x = y
        · exact .inl e2
        · have h1 := h1.resolve_left e2
          refine .inr ⟨h1, fun h3 => ?_⟩
          obtain ⟨k, j, h5, h6, h7⟩ := h2 (List.mem_cons_of_mem _ h3)
          cases j with
          | zero => omega
          | succ j =>
            cases k with
            | zero =>
              rw [List.getElem?_cons_zero] at h5
              exact absurd (Option.some.inj h5).symm e2
            | succ k =>
              rw [List.getElem?_cons_succ] at h5 h6
              exact ⟨k, j, h5, h6, by omega⟩
theorem before_place {t : Trade} (hT : TradeOk t) {i : Nat} (hi : i < t.cu.length) {th x : Int} : x ∈ before th (listAt t i) ↔ x ∈ listAt t i ∧ placeT t i x < placeT t i th := by
  rw [mem_before (hT.cu i hi).1]
  constructor
  · rintro ⟨h1, h2⟩
    refine ⟨h1, ?_⟩
    by_cases h3 : th ∈ listAt t i
    · obtain ⟨k, j, h4, h5, h6⟩ := h2 h3
      rw [place_at hT hi h4, place_at hT hi h5]; omega
    · rw [place_not h3]; exact place_lt.mpr h1
  · rintro ⟨h1, h2⟩
    refine ⟨h1, fun h3 => ?_⟩
    obtain ⟨k, h4, h5⟩ := place_mem h1
    obtain ⟨j, h6, h7⟩ := place_mem h3
    exact ⟨k, j, h4, h6, by omega⟩
end Go.Proofs.Ytoafhoihigfllaa.E
