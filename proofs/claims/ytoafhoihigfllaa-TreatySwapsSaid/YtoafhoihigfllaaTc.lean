/-
  The chapter of the treaty: claims are checked. Conditions: none.
-/
import Derived.Test.YtoafhoihigfllaaTb
namespace Go.Proofs.Ytoafhoihigfllaa.E
open Go Go.RowKit
set_option linter.unusedVariables false
set_option linter.unusedSimpArgs false
def H48 (ctx : Ctx) : Prop := ∀ (ro c : Bool) (l : List Int), l.length < 2^62 → ctx 48 [(ro, .sl c 1 (ints l))] = some [.fv (.int .i64 (sumI l))]
def H51 (ctx : Ctx) : Prop := ∀ (r1 r2 r3 : Bool) (a b c : Int), ctx 51 [(r1, .int .i64 a), (r2, .int .i64 b), (r3, .int .i64 c)] = some [.fv (.bool (decide (b ≤ a) && decide (a ≤ c)))]
theorem v53 (ctx : Ctx) (hC : CtxOk (pg ctx)) (h51 : H51 ctx) (r : Bool) (n : Int) : Valid Try.prog 53 [(r, .int .i64 n)] [.fv (.bool (!(decide (0 ≤ n) && decide (n ≤ 100000))))] := by
  refine valid_of_ev (G := pg ctx) (tok ctx) hC mixed Try.func53 T53 L53 (by simp [Try.ntmps53]) ⟨_, rfl, ?_⟩
  simp only [Try.ntmps53, Try.results53, initSt, initEnv]
  refine ev_seq (ev_reg (by simp; rfl) ?_)  -- region 0
  refine ev_seq (ev_reg (by simp [h51 _ _ _ _ _ _]; rfl) ?_)  -- region 1
  refine ev_ret ?_
  simp
theorem idx_some {p : Int → Bool} {l : List Int} {i : Nat} (h : i < l.length) (hn : ∀ x ∈ l.take i, p x = false) (hp : p l[i] = true) : l.findIdx? p = some i := by
  rw [List.findIdx?_eq_some_iff_getElem]
  refine ⟨h, hp, fun j hj => ?_⟩
  simp only [Bool.not_eq_true]
  exact hn _ (by rw [List.mem_take_iff_getElem]; exact ⟨j, by omega, rfl⟩)
theorem take_all {p : Int → Bool} {l : List Int} {i : Nat} (h : i < l.length) (hn : ∀ x ∈ l.take i, p x = false) (hp : p l[i] = false) : ∀ x ∈ l.take (i + 1), p x = false := by
  intro x hx
  rw [List.take_add_one, List.getElem?_eq_getElem h] at hx
  simp only [Option.toList_some, List.mem_append, List.mem_singleton] at hx
  rcases hx with hx | rfl
  · exact hn x hx
  · exact hp
/-- the place of the first that a function likes; -1: of none -/
def idx (p : Int → Bool) (l : List Int) : Int := match l.findIdx? p with | some i => i | none => -1
theorem v75 (ctx : Ctx) (hC : CtxOk (pg ctx)) (k : FuncId) (p : Int → Bool) (l : List Int) (hl : l.length < 2^62) (ro rf c : Bool) (caps : List FV) (hk : ∀ x ∈ l, ∀ q, ctx k ((q, .int .i64 x) :: caps.map fun y => (rf, y)) = some [.fv (.bool (p x))]) : Valid Try.prog 75 [(ro, .sl c 1 (ints l)), (rf, .fn (.func k) [] caps)] [.fv (.int .i64 (idx p l))] := by
  refine valid_of_ev (G := pg ctx) (tok ctx) hC mixed Try.func75 T75 L75 (by simp [Try.ntmps75]) ⟨_, rfl, ?_⟩
  simp only [Try.ntmps75, Try.results75, initSt, initEnv]
  refine ev_seq (ev_reg (by simp; rfl) ?_)  -- region 0
  refine ev_seq (ev_seq (ev_reg (by simp; rfl) ?_))  -- region 1
  refine ev_block ?_  -- 0
  refine ev_loop (fun i : Nat => ({ env := [(0, V.fv ro (FV.sl c 1 (ints l))), (1, V.fv rf (.fn (.func k) [] caps)), (7, V.fv false (FV.int .i64 l.length)), (8, V.fv false (FV.int .i64 i))], blk := [] } : St)) (fun i => l.length - i) (fun i => i ≤ l.length ∧ ∀ x ∈ l.take i, p x = false) 0 rfl (by simp) (by simp [R]; omega) (fun i hi => ?_)
  obtain ⟨hi, hn⟩ := hi
  refine ev_seq (ev_reg (by simp; rfl) ?_)  -- region 2
  refine ev_seq (ev_cond rfl (fun hb => ?_) (fun hb => ?_))  -- 9
  · simp at hb
    refine ev_skip ?_
    refine ev_seq (ev_block ?_)  -- 1
    refine ev_seq (ev_reg (by simp; rfl) ?_)  -- region 3
    have hm := hk l[i] (by simp)
    have hlen : l.length ≠ 0 := by omega
    refine ev_seq (ev_reg (by simp [hb, hm]; rfl) ?_)  -- region 4
    refine ev_cond rfl (fun hb2 => ?_) (fun hb2 => ?_)  -- 16
    · refine ev_seq (ev_reg (by simp; rfl) ?_)  -- region 5
      refine ev_ret ?_
      simp [idx, idx_some hb hn hb2]
    · refine ev_skip ?_
      refine ev_reg (by simp; rfl) ?_  -- region 6
      refine ⟨i + 1, ?_, ⟨by omega, take_all hb hn hb2⟩, by omega⟩
      simp
      exact wrap_nat (n := i + 1) (by omega)
  · simp at hb
    refine ev_exit ?_  -- 0
    refine ev_seq (ev_reg (by simp; rfl) ?_)  -- region 7
    refine ev_ret ?_
    have hnone : l.findIdx? p = none := by
      rw [List.findIdx?_eq_none_iff]
      rw [List.take_of_length_le hb] at hn
      simpa using hn
    simp [idx, hnone]
def H75 (ctx : Ctx) (k : FuncId) (caps : List FV) (p : Int → Bool) : Prop := ∀ (l : List Int) (ro rf c : Bool), l.length < 2^62 → ctx 75 [(ro, .sl c 1 (ints l)), (rf, .fn (.func k) [] caps)] = some [.fv (.int .i64 (idx p l))]
theorem idx_nonneg (p : Int → Bool) (l : List Int) : decide (0 ≤ idx p l) = l.any p := by
  unfold idx
  cases h : l.findIdx? p with
  | none =>
    simp only [List.findIdx?_eq_none_iff] at h
    have : l.any p = false := by simpa using h
    rw [this]; rfl
  | some i =>
    rw [List.findIdx?_eq_some_iff_getElem] at h
    obtain ⟨hi, hp, _⟩ := h
    have : l.any p = true := by simp only [List.any_eq_true]; exact ⟨_, List.getElem_mem hi, hp⟩
    rw [this]; simp
theorem v52 (ctx : Ctx) (hC : CtxOk (pg ctx)) (k : FuncId) (p : Int → Bool) (caps : List FV) (h75 : H75 ctx k caps p) (l : List Int) (hl : l.length < 2^62) (ro rf c : Bool) : Valid Try.prog 52 [(ro, .sl c 1 (ints l)), (rf, .fn (.func k) [] caps)] [.fv (.bool (l.any p))] := by
  refine valid_of_ev (G := pg ctx) (tok ctx) hC mixed Try.func52 T52 L52 (by simp [Try.ntmps52]) ⟨_, rfl, ?_⟩
  simp only [Try.ntmps52, Try.results52, initSt, initEnv]
  refine ev_seq (ev_reg (by simp; rfl) ?_)  -- region 0
  refine ev_seq (ev_reg (by simp [h75 l ro rf c hl]; rfl) ?_)  -- region 1
  refine ev_ret ?_
  simp [idx_nonneg]
def H52 (ctx : Ctx) (k : FuncId) (caps : List FV) (p : Int → Bool) : Prop := ∀ (l : List Int) (ro rf c : Bool), l.length < 2^62 → ctx 52 [(ro, .sl c 1 (ints l)), (rf, .fn (.func k) [] caps)] = some [.fv (.bool (l.any p))]
/-- claims -/
def fClaims (q : Int) (c : Bool) (l : List Int) : FV := .agg [.int .i64 q, .sl c 1 (ints l)]
def wrongRight (n : Int) : Bool := !(decide (0 ≤ n) && decide (n ≤ 100000))
def okClaims (q : Int) (l : List Int) : Bool := (decide (1 ≤ l.length) && decide (l.length ≤ 8)) && !l.any wrongRight && (decide (0 ≤ q) && decide (q ≤ sumI l))
theorem v18 (ctx : Ctx) (hC : CtxOk (pg ctx)) (h51 : H51 ctx) (h48 : H48 ctx) (h52 : H52 ctx 53 [] wrongRight) (q : Int) (l : List Int) (hl : l.length < 2^62) (ro c : Bool) :
    Valid Try.prog 18 [(ro, fClaims q c l)] [.fv (.int .i64 (if okClaims q l then 0 else 100))] := by
  refine valid_of_ev (G := pg ctx) (tok ctx) hC mixed Try.func18 T18 L18 (by simp [Try.ntmps18]) ⟨_, rfl, ?_⟩
  simp only [Try.ntmps18, Try.results18, initSt, initEnv, fClaims]
  refine ev_seq (ev_reg (by simp [boxA, vcells]; rfl) ?_)  -- region 0
  obtain ⟨A, hA⟩ : ∃ A, A = (decide ((1 : Int) ≤ l.length) && decide ((l.length : Int) ≤ 8)) := ⟨_, rfl⟩
  obtain ⟨B, hB⟩ : ∃ B, B = l.any wrongRight := ⟨_, rfl⟩
  obtain ⟨D, hD⟩ : ∃ D, D = (decide ((0 : Int) ≤ q) && decide (q ≤ sumI l)) := ⟨_, rfl⟩
  have eA : ∀ (r1 r2 r3 : Bool), ctx 51 [(r1, .int .i64 l.length), (r2, .int .i64 1), (r3, .int .i64 8)] = some [.fv (.bool A)] := fun r1 r2 r3 => by rw [hA]; exact h51 r1 r2 r3 _ _ _
  have eB : ∀ (ro rf c : Bool), ctx 52 [(ro, .sl c 1 (ints l)), (rf, .fn (.func 53) [] [])] = some [.fv (.bool B)] := fun ro rf c => by rw [hB]; exact h52 l ro rf c hl
  have eC : ∀ (ro c : Bool), ctx 48 [(ro, .sl c 1 (ints l))] = some [.fv (.int .i64 (sumI l))] := fun ro c => h48 ro c l hl
  have eD : ∀ (r1 r2 r3 : Bool), ctx 51 [(r1, .int .i64 q), (r2, .int .i64 0), (r3, .int .i64 (sumI l))] = some [.fv (.bool D)] := fun r1 r2 r3 => by rw [hD]; exact h51 r1 r2 r3 _ _ _
  have hok : okClaims q l = (A && !B && D) := by
    rw [hA, hB, hD, okClaims]
    have h1 : decide (1 ≤ l.length) = decide ((1 : Int) ≤ l.length) := by simp; omega
    have h2 : decide (l.length ≤ 8) = decide ((l.length : Int) ≤ 8) := by simp; omega
    rw [h1, h2]
  rw [hok]
  clear hA hB hD hok
  cases A with
  | false =>
    refine ev_seq (ev_seq (ev_drw rfl (by kernel_rfl) (by kernel_rfl) (by simp [T18, eA, eB, eC, eD]; rfl) ?_))  -- region 1
    refine ev_cond rfl (fun hb => ?_) (fun hb => by simp at hb)
    refine ev_seq (ev_reg (by simp; rfl) ?_)  -- region 2
    refine ev_ret ?_
    simp
  | true =>
    cases B with
    | true =>
      refine ev_seq (ev_seq (ev_drw rfl (by kernel_rfl) (by kernel_rfl) (by simp [T18, eA, eB, eC, eD]; rfl) ?_))  -- region 1
      refine ev_cond rfl (fun hb => ?_) (fun hb => by simp at hb)
      refine ev_seq (ev_reg (by simp; rfl) ?_)  -- region 2
      refine ev_ret ?_
      simp
    | false =>
      refine ev_seq (ev_seq (ev_drw rfl (by kernel_rfl) (by kernel_rfl) (by simp [T18, eA, eB, eC, eD]; rfl) ?_))  -- region 1
      refine ev_cond rfl (fun hb => ?_) (fun hb => ?_)
      · simp at hb
        refine ev_seq (ev_reg (by simp; rfl) ?_)  -- region 2
        refine ev_ret ?_
        simp [hb]
      · simp at hb
        refine ev_skip ?_
        refine ev_seq (ev_reg (by simp; rfl) ?_)  -- region 3
        refine ev_ret ?_
        simp [hb]
end Go.Proofs.Ytoafhoihigfllaa.E
