/-
  The chapter of the treaty: walks of the shares, and of what all laws use. Conditions: none.
-/
import Derived.Test.YtoafhoihigfllaaTl
namespace Go.Proofs.Ytoafhoihigfllaa.E
open Go Go.RowKit
set_option linter.unusedVariables false
set_option linter.unusedSimpArgs false
def sumI (l : List Int) : Int := l.foldl (fun n x => IntKind.i64.wrap (n + x)) 0
theorem sumI_take (l : List Int) (i : Nat) (h : i < l.length) : sumI (l.take (i + 1)) = IntKind.i64.wrap (sumI (l.take i) + l[i]) := by
  simp only [sumI, List.take_add_one, List.getElem?_eq_getElem h, Option.toList_some, List.foldl_append, List.foldl_cons, List.foldl_nil]
/-- a length and the next one -/
theorem wrap_id {n : Int} (h : -9223372036854775808 ≤ n) (h' : n < 9223372036854775808) : IntKind.i64.wrap n = n := by
  show (if (true && decide (n % 18446744073709551616 ≥ 9223372036854775808)) = true then n % 18446744073709551616 - 18446744073709551616 else n % 18446744073709551616) = n
  simp only [Bool.true_and, decide_eq_true_eq]
  split <;> omega
theorem wrap_nat {n : Nat} (h : n < 9223372036854775808) : IntKind.i64.wrap n = n := wrap_id (by omega) (by omega)

theorem v48 (ctx : Ctx) (hC : CtxOk (pg ctx)) (l : List Int) (ro : Bool) (c : Bool) (hl : l.length < 2^62) : Valid Try.prog 48 [(ro, .sl c 1 (ints l))] [.fv (.int .i64 (sumI l))] := by
  refine valid_of_ev (G := pg ctx) (tok ctx) hC mixed Try.func48 T48 L48 (by simp [Try.ntmps48]) ⟨_, rfl, ?_⟩
  simp only [Try.ntmps48, Try.results48, initSt, initEnv]
  refine ev_seq (ev_reg (by simp; rfl) ?_)  -- region 0
  refine ev_seq (ev_seq (ev_reg (by simp; rfl) ?_))  -- region 1
  refine ev_block ?_  -- 0
  refine ev_loop (fun i : Nat => ({ env := [(2, V.fv false (FV.int .i64 (sumI (l.take i)))), (5, V.fv ro (FV.sl c 1 (ints l))), (6, V.fv false (FV.int .i64 l.length)), (7, V.fv false (FV.int .i64 i))], blk := [] } : St)) (fun i => l.length - i) (fun i => i ≤ l.length) 0 rfl (by simp) (by simp [R]; omega) (fun i hi => ?_)
  refine ev_seq (ev_reg (by simp; rfl) ?_)  -- region 2
  refine ev_seq (ev_cond rfl (fun hb => ?_) (fun hb => ?_))  -- 8
  · simp at hb
    refine ev_skip ?_
    refine ev_seq (ev_block ?_)  -- 1
    refine ev_seq (ev_reg (by simp [hb]; rfl) ?_)  -- region 3
    refine ev_reg (by simp; rfl) ?_  -- region 4
    refine ev_reg (by simp; rfl) ?_  -- region 5
    refine ⟨i + 1, ?_, by omega, by omega⟩
    simp [sumI_take l i hb]
    exact wrap_nat (n := i + 1) (by omega)
  · simp at hb
    refine ev_exit ?_  -- 0
    refine ev_seq (ev_reg (by simp; rfl) ?_)  -- region 6
    refine ev_ret ?_
    simp [List.take_of_length_le hb]
theorem v51 (ctx : Ctx) (hC : CtxOk (pg ctx)) (a b c : Int) (r1 r2 r3 : Bool) : Valid Try.prog 51 [(r1, .int .i64 a), (r2, .int .i64 b), (r3, .int .i64 c)] [.fv (.bool (decide (b ≤ a) && decide (a ≤ c)))] := by
  refine valid_of_ev (G := pg ctx) (tok ctx) hC mixed Try.func51 T51 L51 (by simp [Try.ntmps51]) ⟨_, rfl, ?_⟩
  simp only [Try.ntmps51, Try.results51, initSt, initEnv]
  refine ev_seq (ev_reg (by simp; rfl) ?_)  -- region 0
  by_cases h : b ≤ a
  · refine ev_seq (ev_reg (by simp [h]; rfl) ?_)  -- region 1
    refine ev_ret ?_
    simp [h]
  · refine ev_seq (ev_reg (by simp [h, unsetS]; rfl) ?_)  -- region 1
    refine ev_ret ?_
    simp [h]
end Go.Proofs.Ytoafhoihigfllaa.E
namespace Go.Proofs.Ytoafhoihigfllaa.E
open Go Go.RowKit
set_option linter.unusedVariables false
set_option linter.unusedSimpArgs false
def H48 (ctx : Ctx) : Prop := ∀ (ro c : Bool) (l : List Int), l.length < 2^62 → ctx 48 [(ro, .sl c 1 (ints l))] = some [.fv (.int .i64 (sumI l))]
def H51 (ctx : Ctx) : Prop := ∀ (r1 r2 r3 : Bool) (a b c : Int), ctx 51 [(r1, .int .i64 a), (r2, .int .i64 b), (r3, .int .i64 c)] = some [.fv (.bool (decide (b ≤ a) && decide (a ≤ c)))]
theorem v53 (ctx : Ctx) (hC : CtxOk (pg ctx)) (h51 : H51 ctx) (r : Bool) (n : Int) : Valid Try.prog 53 [(r, .int .i64 n)] [.fv (.bool (!(decide (0 ≤ n) && decide (n ≤ 100000))))] := by
  refine valid_of_ev (G := pg ctx) (tok ctx) hC mixed Try.func53 T53 L53 (by simp [Try.ntmps53]) ⟨_, rfl, ?_⟩
  simp only [Try.ntmps53, Try.results53, initSt, initEnv]
  refine ev_seq (ev_reg (by simp; rfl) ?_)  -- region 0
  refine ev_seq (ev_reg (by simp [h51 _ _ _ _ _ _]; rfl) ?_)  -- region 1
  refine ev_ret ?_
  simp
theorem idx_some {p : Int → Bool} {l : List Int} {i : Nat} (h : i < l.length) (hn : ∀ x ∈ l.take i, p x = false) (hp : p l[i] = true) : l.findIdx? p = some i := by
  rw [List.findIdx?_eq_some_iff_getElem]
  refine ⟨h, hp, fun j hj => ?_⟩
  simp only [Bool.not_eq_true]
  exact hn _ (by rw [List.mem_take_iff_getElem]; exact ⟨j, by omega, rfl⟩)
theorem take_all {p : Int → Bool} {l : List Int} {i : Nat} (h : i < l.length) (hn : ∀ x ∈ l.take i, p x = false) (hp : p l[i] = false) : ∀ x ∈ l.take (i + 1), p x = false := by
  intro x hx
  rw [List.take_add_one, List.getElem?_eq_getElem h] at hx
  simp only [Option.toList_some, List.mem_append, List.mem_singleton] at hx
  rcases hx with hx | rfl
  · exact hn x hx
  · exact hp
/-- the place of the first that a function likes; -1: of none -/
def idx (p : Int → Bool) (l : List Int) : Int := match l.findIdx? p with | some i => i | none => -1
theorem v75 (ctx : Ctx) (hC : CtxOk (pg ctx)) (k : FuncId) (p : Int → Bool) (l : List Int) (hl : l.length < 2^62) (ro rf c : Bool) (caps : List FV) (hk : ∀ x ∈ l, ∀ q, ctx k ((q, .int .i64 x) :: caps.map fun y => (rf, y)) = some [.fv (.bool (p x))]) : Valid Try.prog 75 [(ro, .sl c 1 (ints l)), (rf, .fn (.func k) [] caps)] [.fv (.int .i64 (idx p l))] := by
  refine valid_of_ev (G := pg ctx) (tok ctx) hC mixed Try.func75 T75 L75 (by simp [Try.ntmps75]) ⟨_, rfl, ?_⟩
  simp only [Try.ntmps75, Try.results75, initSt, initEnv]
  refine ev_seq (ev_reg (by simp; rfl) ?_)  -- region 0
  refine ev_seq (ev_seq (ev_reg (by simp; rfl) ?_))  -- region 1
  refine ev_block ?_  -- 0
  refine ev_loop (fun i : Nat => ({ env := [(0, V.fv ro (FV.sl c 1 (ints l))), (1, V.fv rf (.fn (.func k) [] caps)), (7, V.fv false (FV.int .i64 l.length)), (8, V.fv false (FV.int .i64 i))], blk := [] } : St)) (fun i => l.length - i) (fun i => i ≤ l.length ∧ ∀ x ∈ l.take i, p x = false) 0 rfl (by simp) (by simp [R]; omega) (fun i hi => ?_)
  obtain ⟨hi, hn⟩ := hi
  refine ev_seq (ev_reg (by simp; rfl) ?_)  -- region 2
  refine ev_seq (ev_cond rfl (fun hb => ?_) (fun hb => ?_))  -- 9
  · simp at hb
    refine ev_skip ?_
    refine ev_seq (ev_block ?_)  -- 1
    refine ev_seq (ev_reg (by simp; rfl) ?_)  -- region 3
    have hm := hk l[i] (by simp)
    have hlen : l.length ≠ 0 := by omega
    refine ev_seq (ev_reg (by simp [hb, hm]; rfl) ?_)  -- region 4
    refine ev_cond rfl (fun hb2 => ?_) (fun hb2 => ?_)  -- 16
    · refine ev_seq (ev_reg (by simp; rfl) ?_)  -- region 5
      refine ev_ret ?_
      simp [idx, idx_some hb hn hb2]
    · refine ev_skip ?_
      refine ev_reg (by simp; rfl) ?_  -- region 6
      refine ⟨i + 1, ?_, ⟨by omega, take_all hb hn hb2⟩, by omega⟩
      simp
      exact wrap_nat (n := i + 1) (by omega)
  · simp at hb
    refine ev_exit ?_  -- 0
    refine ev_seq (ev_reg (by simp; rfl) ?_)  -- region 7
    refine ev_ret ?_
    have hnone : l.findIdx? p = none := by
      rw [List.findIdx?_eq_none_iff]
      rw [List.take_of_length_le hb] at hn
      simpa using hn
    simp [idx, hnone]
def H75 (ctx : Ctx) (k : FuncId) (caps : List FV) (p : Int → Bool) : Prop := ∀ (l : List Int) (ro rf c : Bool), l.length < 2^62 → ctx 75 [(ro, .sl c 1 (ints l)), (rf, .fn (.func k) [] caps)] = some [.fv (.int .i64 (idx p l))]
theorem idx_nonneg (p : Int → Bool) (l : List Int) : decide (0 ≤ idx p l) = l.any p := by
  unfold idx
  cases h : l.findIdx? p with
  | none =>
    simp only [List.findIdx?_eq_none_iff] at h
    have : l.any p = false := by simpa using h
    rw [this]; rfl
  | some i =>
    rw [List.findIdx?_eq_some_iff_getElem] at h
    obtain ⟨hi, hp, _⟩ := h
    have : l.any p = true := by simp only [List.any_eq_true]; exact ⟨_, List.getElem_mem hi, hp⟩
    rw [this]; simp
theorem v52 (ctx : Ctx) (hC : CtxOk (pg ctx)) (k : FuncId) (p : Int → Bool) (caps : List FV) (h75 : H75 ctx k caps p) (l : List Int) (hl : l.length < 2^62) (ro rf c : Bool) : Valid Try.prog 52 [(ro, .sl c 1 (ints l)), (rf, .fn (.func k) [] caps)] [.fv (.bool (l.any p))] := by
  refine valid_of_ev (G := pg ctx) (tok ctx) hC mixed Try.func52 T52 L52 (by simp [Try.ntmps52]) ⟨_, rfl, ?_⟩
  simp only [Try.ntmps52, Try.results52, initSt, initEnv]
  refine ev_seq (ev_reg (by simp; rfl) ?_)  -- region 0
  refine ev_seq (ev_reg (by simp [h75 l ro rf c hl]; rfl) ?_)  -- region 1
  refine ev_ret ?_
  simp [idx_nonneg]
def H52 (ctx : Ctx) (k : FuncId) (caps : List FV) (p : Int → Bool) : Prop := ∀ (l : List Int) (ro rf c : Bool), l.length < 2^62 → ctx 52 [(ro, .sl c 1 (ints l)), (rf, .fn (.func k) [] caps)] = some [.fv (.bool (l.any p))]
/-- claims -/
def fClaims (q : Int) (c : Bool) (l : List Int) : FV := .agg [.int .i64 q, .sl c 1 (ints l)]
def wrongRight (n : Int) : Bool := !(decide (0 ≤ n) && decide (n ≤ 100000))
def okClaims (q : Int) (l : List Int) : Bool := (decide (1 ≤ l.length) && decide (l.length ≤ 8)) && !l.any wrongRight && (decide (0 ≤ q) && decide (q ≤ sumI l))
theorem v18 (ctx : Ctx) (hC : CtxOk (pg ctx)) (h51 : H51 ctx) (h48 : H48 ctx) (h52 : H52 ctx 53 [] wrongRight) (q : Int) (l : List Int) (hl : l.length < 2^62) (ro c : Bool) :
    Valid Try.prog 18 [(ro, fClaims q c l)] [.fv (.int .i64 (if okClaims q l then 0 else 100))] := by
  refine valid_of_ev (G := pg ctx) (tok ctx) hC mixed Try.func18 T18 L18 (by simp [Try.ntmps18]) ⟨_, rfl, ?_⟩
  simp only [Try.ntmps18, Try.results18, initSt, initEnv, fClaims]
  refine ev_seq (ev_reg (by simp [boxA, vcells]; rfl) ?_)  -- region 0
  obtain ⟨A, hA⟩ : ∃ A, A = (decide ((1 : Int) ≤ l.length) && decide ((l.length : Int) ≤ 8)) := ⟨_, rfl⟩
  obtain ⟨B, hB⟩ : ∃ B, B = l.any wrongRight := ⟨_, rfl⟩
  obtain ⟨D, hD⟩ : ∃ D, D = (decide ((0 : Int) ≤ q) && decide (q ≤ sumI l)) := ⟨_, rfl⟩
  have eA : ∀ (r1 r2 r3 : Bool), ctx 51 [(r1, .int .i64 l.length), (r2, .int .i64 1), (r3, .int .i64 8)] = some [.fv (.bool A)] := fun r1 r2 r3 => by rw [hA]; exact h51 r1 r2 r3 _ _ _
  have eB : ∀ (ro rf c : Bool), ctx 52 [(ro, .sl c 1 (ints l)), (rf, .fn (.func 53) [] [])] = some [.fv (.bool B)] := fun ro rf c => by rw [hB]; exact h52 l ro rf c hl
  have eC : ∀ (ro c : Bool), ctx 48 [(ro, .sl c 1 (ints l))] = some [.fv (.int .i64 (sumI l))] := fun ro c => h48 ro c l hl
  have eD : ∀ (r1 r2 r3 : Bool), ctx 51 [(r1, .int .i64 q), (r2, .int .i64 0), (r3, .int .i64 (sumI l))] = some [.fv (.bool D)] := fun r1 r2 r3 => by rw [hD]; exact h51 r1 r2 r3 _ _ _
  have hok : okClaims q l = (A && !B && D) := by
    rw [hA, hB, hD, okClaims]
    have h1 : decide (1 ≤ l.length) = decide ((1 : Int) ≤ l.length) := by simp; omega
    have h2 : decide (l.length ≤ 8) = decide ((l.length : Int) ≤ 8) := by simp; omega
    rw [h1, h2]
  rw [hok]
  clear hA hB hD hok
  cases A with
  | false =>
    refine ev_seq (ev_seq (ev_drw rfl (by kernel_rfl) (by kernel_rfl) (by simp [T18, eA, eB, eC, eD]; rfl) ?_))  -- region 1
    refine ev_cond rfl (fun hb => ?_) (fun hb => by simp at hb)
    refine ev_seq (ev_reg (by simp; rfl) ?_)  -- region 2
    refine ev_ret ?_
    simp
  | true =>
    cases B with
    | true =>
      refine ev_seq (ev_seq (ev_drw rfl (by kernel_rfl) (by kernel_rfl) (by simp [T18, eA, eB, eC, eD]; rfl) ?_))  -- region 1
      refine ev_cond rfl (fun hb => ?_) (fun hb => by simp at hb)
      refine ev_seq (ev_reg (by simp; rfl) ?_)  -- region 2
      refine ev_ret ?_
      simp
    | false =>
      refine ev_seq (ev_seq (ev_drw rfl (by kernel_rfl) (by kernel_rfl) (by simp [T18, eA, eB, eC, eD]; rfl) ?_))  -- region 1
      refine ev_cond rfl (fun hb => ?_) (fun hb => ?_)
      · simp at hb
        refine ev_seq (ev_reg (by simp; rfl) ?_)  -- region 2
        refine ev_ret ?_
        simp [hb]
      · simp at hb
        refine ev_skip ?_
        refine ev_seq (ev_reg (by simp; rfl) ?_)  -- region 3
        refine ev_ret ?_
        simp [hb]
end Go.Proofs.Ytoafhoihigfllaa.E
namespace Go.Proofs.Ytoafhoihigfllaa.E
open Go Go.RowKit
set_option linter.unusedVariables false
set_option linter.unusedSimpArgs false
def minI (a b : Int) : Int := if b < a then b else a
theorem v74 (ctx : Ctx) (hC : CtxOk (pg ctx)) (q : Int) (l : List Int) (ro c r2 r3 : Bool) (n : Nat) (level : Int) (hn : n < l.length) :
    Valid Try.prog 74 [(ro, fClaims q c l), (r2, .int .i64 n), (r3, .int .i64 level)] [.fv (.int .i64 (minI l[n] level))] := by
  refine valid_of_ev (G := pg ctx) (tok ctx) hC mixed Try.func74 T74 L74 (by simp [Try.ntmps74]) ⟨_, rfl, ?_⟩
  simp only [Try.ntmps74, Try.results74, initSt, initEnv, fClaims]
  refine ev_seq (ev_reg (by simp; rfl) ?_)  -- region 0
  refine ev_seq (ev_reg (by simp [hn]; rfl) ?_)  -- region 1
  refine ev_ret ?_
  simp [minI]
def H74 (ctx : Ctx) : Prop := ∀ (q : Int) (l : List Int) (ro c r2 r3 : Bool) (n : Nat) (level : Int) (hn : n < l.length), ctx 74 [(ro, fClaims q c l), (r2, .int .i64 n), (r3, .int .i64 level)] = some [.fv (.int .i64 (minI l[n] level))]
def atI (l : List Int) (level : Int) : List Int := l.map (minI · level)
theorem atI_take {l : List Int} {level : Int} {i : Nat} (h : i < l.length) : atI (l.take (i + 1)) level = atI (l.take i) level ++ [minI l[i] level] := by
  simp only [atI, List.take_add_one, List.getElem?_eq_getElem h, Option.toList_some, List.map_append, List.map_cons, List.map_nil]
theorem v49 (ctx : Ctx) (hC : CtxOk (pg ctx)) (h74 : H74 ctx) (q : Int) (l : List Int) (hl : l.length < 2^40) (ro c r3 : Bool) (level : Int) :
    Valid Try.prog 49 [(ro, fClaims q c l), (r3, .int .i64 level)] [.us 1 (ints (atI l level))] := by
  refine valid_of_ev (G := pg ctx) (tok ctx) hC mixed Try.func49 T49 L49 (by simp [Try.ntmps49]) ⟨_, rfl, ?_⟩
  simp only [Try.ntmps49, Try.results49, initSt, initEnv, fClaims]
  refine ev_seq (ev_reg (by simp; rfl) ?_)  -- region 0
  refine ev_seq (ev_reg (by simp; rfl) ?_)  -- region 1
  refine ev_seq (ev_reg (by simp; rfl) ?_)  -- region 2
  refine ev_seq (ev_seq (ev_reg (by simp; rfl) ?_))  -- region 3
  refine ev_block ?_  -- 0
  refine ev_loop (fun i : Nat => ({ env := [(1, V.fv r3 (FV.int .i64 level)), (2, V.ptr 2 0), (5, V.fv false (FV.fn (Fn.func 74) [] [])), (6, V.own 6 0 i), (11, V.fv false (FV.int .i64 l.length)), (12, V.fv false (FV.int .i64 i))], blk := [(2, Blk.box [V.fv false (FV.int .i64 q), V.fv ro (FV.sl c 1 (ints l))]), (6, Blk.arr 1 (ints (atI (l.take i) level)))] } : St)) (fun i => l.length - i) (fun i => i ≤ l.length) 0 rfl (by simp) (by simp [R]; omega) (fun i hi => ?_)
  have hlen : (atI (l.take i) level).length = i := by simp [atI]; omega
  refine ev_seq (ev_reg (by simp; rfl) ?_)  -- region 4
  refine ev_seq (ev_cond rfl (fun hb => ?_) (fun hb => ?_))  -- 13
  · simp at hb
    have e74 := fun ro r2 r3 => h74 q l ro c r2 r3 i level hb
    simp only [fClaims] at e74
    have h8 : (i + 1) * 8 ≤ 140737488355328 := by omega
    refine ev_skip ?_
    refine ev_seq (ev_block ?_)  -- 1
    refine ev_seq (ev_reg (by simp; rfl) ?_)  -- region 5
    refine ev_reg (by simp [e74, hlen, h8]; rfl) ?_  -- region 6
    refine ev_reg (by simp; rfl) ?_  -- region 7
    refine ⟨i + 1, ?_, by omega, by omega⟩
    simp [atI_take hb]
    exact wrap_nat (n := i + 1) (by omega)
  · simp at hb
    refine ev_exit ?_  -- 0
    refine ev_seq (ev_reg (by simp; rfl) ?_)  -- region 8
    refine ev_ret ?_
    have : i = l.length := by omega
    subst this
    simp at hlen
    simp [hlen]
end Go.Proofs.Ytoafhoihigfllaa.E
namespace Go.Proofs.Ytoafhoihigfllaa.E
open Go Go.RowKit
set_option linter.unusedVariables false
set_option linter.unusedSimpArgs false
def H18 (ctx : Ctx) : Prop := ∀ (q : Int) (l : List Int) (ro c : Bool), l.length < 2^62 → ctx 18 [(ro, fClaims q c l)] = some [.fv (.int .i64 (if okClaims q l then 0 else 100))]
def H49 (ctx : Ctx) : Prop := ∀ (q : Int) (l : List Int) (ro c r3 : Bool) (level : Int), l.length < 2^40 → ctx 49 [(ro, fClaims q c l), (r3, .int .i64 level)] = some [.us 1 (ints (atI l level))]
/-- what all get at a level -/
def sumAt (l : List Int) (n : Int) : Int := sumI (atI l n)
/-- the level that the search finds -/
def IsLevel (q : Int) (l : List Int) (n : Int) : Prop := 0 ≤ n ∧ n ≤ 100000 ∧ sumAt l n ≤ q ∧ (n = 100000 ∨ q < sumAt l (n + 1))
/-- one more for a nation -/
def spreadStep (n : Int) (s : List Int × Int) (r : Int) : List Int × Int := if 0 < s.2 ∧ n < r then (s.1 ++ [minI r n + 1], s.2 - 1) else (s.1 ++ [minI r n], s.2)
def spread (n left : Int) (l : List Int) : List Int × Int := l.foldl (spreadStep n) ([], left)
theorem spread_take {n left : Int} {l : List Int} {i : Nat} (h : i < l.length) : spread n left (l.take (i + 1)) = spreadStep n (spread n left (l.take i)) l[i] := by
  simp only [spread, List.take_add_one, List.getElem?_eq_getElem h, Option.toList_some, List.foldl_append, List.foldl_cons, List.foldl_nil]
theorem spread_le {n left : Int} : ∀ {l : List Int} {i : Nat}, i ≤ l.length → (spread n left (l.take i)).2 ≤ left
  | l, 0, _ => by simp [spread]
  | l, i + 1, h => by
    rw [spread_take (by omega), spreadStep]
    have := spread_le (n := n) (left := left) (l := l) (i := i) (by omega)
    split
    · simp only; omega
    · exact this
theorem wrap_lt (n : Int) : IntKind.i64.wrap n < 9223372036854775808 := by
  show (if (true && decide (n % 18446744073709551616 ≥ 9223372036854775808)) = true then n % 18446744073709551616 - 18446744073709551616 else n % 18446744073709551616) < 9223372036854775808
  simp only [Bool.true_and, decide_eq_true_eq]
  split <;> omega
theorem spread_length {n left : Int} : ∀ {l : List Int} {i : Nat}, i ≤ l.length → (spread n left (l.take i)).1.length = i
  | l, 0, _ => by simp [spread]
  | l, i + 1, h => by
    rw [spread_take (by omega), spreadStep]
    have := spread_length (n := n) (left := left) (l := l) (i := i) (by omega)
    split <;> simp [this]
def sharesOf (q : Int) (l : List Int) (n : Int) : List Int := (spread n (IntKind.i64.wrap (q - sumAt l n)) l).1
theorem v15 (ctx : Ctx) (hC : CtxOk (pg ctx)) (h18 : H18 ctx) (h48 : H48 ctx) (h49 : H49 ctx) (q : Int) (l : List Int) (hl : l.length < 2^62) (ro c : Bool) (hbad : okClaims q l = false) :
    Valid Try.prog 15 [(ro, fClaims q c l)] [.us 1 [], .fv (.int .i64 100)] := by
  refine valid_of_ev (G := pg ctx) (tok ctx) hC mixed Try.func15 T15 L15 (by simp [Try.ntmps15]) ⟨_, rfl, ?_⟩
  simp only [Try.ntmps15, Try.results15, initSt, initEnv, fClaims]
  have e18 := fun ro => h18 q l ro c hl
  simp only [fClaims, hbad] at e18
  refine ev_seq (ev_reg (by simp; rfl) ?_)  -- region 0
  refine ev_seq (ev_seq (ev_reg (by simp [e18]; rfl) ?_))  -- region 1
  refine ev_seq (ev_reg (by simp; rfl) ?_)  -- region 2
  refine ev_cond rfl (fun hb => ?_) (fun hb => ?_)  -- 15
  · refine ev_seq (ev_reg (by simp; rfl) ?_)  -- region 3
    refine ev_ret ?_
    simp
  · simp at hb
/-- the search by halves -/
def bis (q : Int) (l : List Int) : Nat → Int → Int → Int
  | 0, lo, _ => lo
  | f + 1, lo, hi => if 1 < hi - lo then (if sumAt l ((lo + hi) / 2) ≤ q then bis q l f ((lo + hi) / 2) hi else bis q l f lo ((lo + hi) / 2)) else lo
def lvl (q : Int) (l : List Int) : Int := bis q l 100001 0 100001
theorem v15g (ctx : Ctx) (hC : CtxOk (pg ctx)) (h18 : H18 ctx) (h48 : H48 ctx) (h49 : H49 ctx) (q : Int) (l : List Int) (hl : l.length < 2^40) (ro c : Bool) (hok : okClaims q l = true) :
    Valid Try.prog 15 [(ro, fClaims q c l)] [.us 1 (ints (sharesOf q l (lvl q l))), .fv (.int .i64 0)] := by
  refine valid_of_ev (G := pg ctx) (tok ctx) hC mixed Try.func15 T15 L15 (by simp [Try.ntmps15]) ⟨_, rfl, ?_⟩
  simp only [Try.ntmps15, Try.results15, initSt, initEnv, fClaims]
  have e18 := fun ro => h18 q l ro c (by omega)
  have e49 := fun ro r3 level => h49 q l ro c r3 level hl
  have hlen : ∀ n, (atI l n).length = l.length := fun n => by simp [atI]
  have htk : ∀ n, (atI l n).take l.length = atI l n := fun n => List.take_of_length_le (by rw [hlen]; omega)
  have e48 := fun ro c n => h48 ro c (atI l n) (by rw [hlen]; omega)
  simp only [fClaims, hok, if_true] at e18 e49
  refine ev_seq (ev_reg (by simp; rfl) ?_)  -- region 0
  refine ev_seq (ev_seq (ev_reg (by simp [e18]; rfl) ?_))  -- region 1
  refine ev_seq (ev_reg (by simp; rfl) ?_)  -- region 2
  refine ev_cond rfl (fun hb => by simp at hb) (fun hb => ?_)  -- 15
  refine ev_skip ?_
  refine ev_seq (ev_reg (by simp; rfl) ?_)  -- region 4
  refine ev_seq (ev_reg (by simp; rfl) ?_)  -- region 5
  refine ev_seq (ev_block ?_)  -- 0
  refine ev_loop (fun x : Int × Int => ({ env := [(5, .ptr 5 0), (6, .fv false (.int .i64 x.1)), (7, .fv false (.int .i64 x.2))], blk := [(5, .box [.fv false (.int .i64 q), .fv ro (.sl c 1 (ints l))])] } : St)) (fun x => (x.2 - x.1).toNat) (fun x => 0 ≤ x.1 ∧ x.1 < x.2 ∧ x.2 ≤ 100001 ∧ ∃ f : Nat, x.2 - x.1 ≤ f ∧ bis q l f x.1 x.2 = lvl q l) (0, 100001) rfl (by simp; exact ⟨100001, by omega, rfl⟩) (by simp [R]) (fun x hi => ?_)
  obtain ⟨lo, hi'⟩ := x
  obtain ⟨h0, h1, h2, f, h3, h4⟩ := hi
  simp only at h0 h1 h2 h3 h4
  have hw : IntKind.i64.wrap (hi' - lo) = hi' - lo := wrap_id (by omega) (by omega)
  refine ev_seq (ev_seq (ev_reg (by simp [hw]; rfl) ?_))  -- region 6
  refine ev_cond rfl (fun hb => ?_) (fun hb => ?_)  -- 22
  · simp at hb
    obtain ⟨f, rfl⟩ : ∃ g, f = g + 1 := ⟨f - 1, by omega⟩
    simp only [bis, hb, if_true] at h4
    have hm : IntKind.i64.wrap ((IntKind.i64.wrap (lo + hi')).tdiv 2) = (lo + hi') / 2 := by
      rw [wrap_id (n := lo + hi') (by omega) (by omega), Int.tdiv_eq_ediv_of_nonneg (by omega)]
      exact wrap_id (by omega) (by omega)
    refine ev_skip ?_
    refine ev_block ?_  -- 1
    refine ev_seq (ev_reg (by simp [hm]; rfl) ?_)  -- region 7
    refine ev_seq (ev_drw rfl (by kernel_rfl) (by kernel_rfl) (by simp [e49, e48]; rfl) ?_)  -- region 8
    refine ev_cond rfl (fun hb2 => ?_) (fun hb2 => ?_)  -- 34
    · simp only [decide_eq_true_eq] at hb2
      refine ev_reg (by simp; rfl) ?_  -- region 9
      refine ⟨((lo + hi') / 2, hi'), rfl, ⟨by simp only; omega, by simp only; omega, by simp only; omega, f, by simp only; omega, ?_⟩, by simp only; omega⟩
      rw [if_pos (show sumAt l ((lo + hi') / 2) ≤ q from hb2)] at h4
      exact h4
    · simp only [decide_eq_false_iff_not] at hb2
      refine ev_reg (by simp; rfl) ?_  -- region 10
      refine ⟨(lo, (lo + hi') / 2), rfl, ⟨by simp only; omega, by simp only; omega, by simp only; omega, f, by simp only; omega, ?_⟩, by simp only; omega⟩
      rw [if_neg (show ¬ sumAt l ((lo + hi') / 2) ≤ q from hb2)] at h4
      exact h4
  · simp at hb
    have hlo : lo = lvl q l := by
      rw [← h4]
      cases f with
      | zero => rfl
      | succ f => rw [bis, if_neg (by omega)]
    rw [← hlo]
    clear hlo h4 h3
    refine ev_exit ?_  -- 0
    refine ev_seq (ev_reg (by simp [e49, hlen]; rfl) ?_)  -- region 11
    refine ev_seq (ev_drw rfl (by kernel_rfl) (by kernel_rfl) (by simp [e48, hlen, htk]; rfl) ?_)  -- region 12
    refine ev_seq (ev_seq (ev_reg (by simp [hlen]; rfl) ?_))  -- region 13
    refine ev_block ?_  -- 2
    -- what has been handed out ahead of each round
    have hst : ∀ i, i ≤ l.length → (spread lo (IntKind.i64.wrap (q - sumAt l lo)) (l.take i)).1.length = i := fun i hi => spread_length hi
    have hok' := wrap_lt (q - sumAt l lo)
    refine ev_loop (fun i : Nat => ({ env := [(5, .ptr 5 0), (6, .fv false (.int .i64 lo)), (9, .own 9 0 l.length), (10, .fv false (.int .i64 (spread lo (IntKind.i64.wrap (q - sumAt l lo)) (l.take i)).2)), (47, .fv false (.int .i64 l.length)), (48, .fv false (.int .i64 i))], blk := [(5, .box [.fv false (.int .i64 q), .fv ro (.sl c 1 (ints l))]), (9, .arr 1 (ints ((spread lo (IntKind.i64.wrap (q - sumAt l lo)) (l.take i)).1 ++ atI (l.drop i) lo)))] } : St)) (fun i => l.length - i) (fun i => i ≤ l.length) 0 (by simp [spread, sumAt]) (by simp) (by simp [R]; omega) (fun i hi => ?_)
    have hsp : ∀ h : i < l.length, spread lo (IntKind.i64.wrap (q - sumAt l lo)) (l.take (i + 1)) = spreadStep lo (spread lo (IntKind.i64.wrap (q - sumAt l lo)) (l.take i)) l[i] := fun h => spread_take h
    have hspl := hst i hi
    have hrange := spread_le (n := lo) (left := IntKind.i64.wrap (q - sumAt l lo)) hi
    generalize hs1 : spread lo (IntKind.i64.wrap (q - sumAt l lo)) (l.take i) = sp at hsp hspl hrange
    clear hst
    generalize hL : IntKind.i64.wrap (q - sumAt l lo) = left0 at hsp hrange hok'
    have hget : ∀ (hb : i < l.length) h, (sp.1 ++ atI (l.drop i) lo)[i]'h = minI l[i] lo := fun hb h => by
      rw [List.getElem_append_right (by omega)]
      simp [atI, hspl]
    have hset : ∀ (hb : i < l.length) v, (sp.1 ++ atI (l.drop i) lo).set i v = sp.1 ++ v :: atI (l.drop (i + 1)) lo := fun hb v => by
      rw [List.set_append_right _ _ (by omega), hspl, Nat.sub_self, List.drop_eq_getElem_cons hb]
      rfl
    have hlt : (sp.1 ++ atI (l.drop i) lo).length = l.length := by simp [atI, hspl]; omega
    have hkeep : ∀ (hb : i < l.length), sp.1 ++ atI (l.drop i) lo = sp.1 ++ minI l[i] lo :: atI (l.drop (i + 1)) lo := fun hb => by
      rw [List.drop_eq_getElem_cons hb]; rfl
    have hend : i = l.length → sp.1 ++ atI (l.drop i) lo = sp.1 := fun e => by rw [e]; simp [atI]
    generalize hout : sp.1 ++ atI (l.drop i) lo = out at hget hset hlt hkeep hend
    refine ev_seq (ev_reg (by simp; rfl) ?_)  -- region 14
    refine ev_seq (ev_cond rfl (fun hb => ?_) (fun hb => ?_))  -- 49
    · simp at hb
      have hw1 : IntKind.i64.wrap ((i : Int) + 1) = (i + 1 : Nat) := wrap_nat (n := i + 1) (by omega)
      refine ev_skip ?_
      refine ev_seq (ev_block ?_)  -- 3
      refine ev_seq (ev_reg (by simp; rfl) ?_)  -- region 15
      have skip : ¬ (0 < sp.2 ∧ lo < l[i]) → (⟨[(5, V.ptr 5 0), (6, .fv false (.int .i64 lo)), (9, .own 9 0 l.length), (10, .fv false (.int .i64 sp.2)), (47, .fv false (.int .i64 l.length)), (48, .fv false (.int .i64 (i + 1 : Nat)))], [(5, Blk.box [.fv false (.int .i64 q), .fv ro (.sl c 1 (ints l))]), (9, .arr 1 (ints out))], []⟩ : St) = ⟨[(5, V.ptr 5 0), (6, .fv false (.int .i64 lo)), (9, .own 9 0 l.length), (10, .fv false (.int .i64 (spread lo left0 (l.take (i + 1))).2)), (47, .fv false (.int .i64 l.length)), (48, .fv false (.int .i64 (i + 1 : Nat)))], [(5, Blk.box [.fv false (.int .i64 q), .fv ro (.sl c 1 (ints l))]), (9, .arr 1 (ints ((spread lo left0 (l.take (i + 1))).1 ++ atI (l.drop (i + 1)) lo)))], []⟩ := fun hn => by
        rw [hsp hb, spreadStep, if_neg hn, hkeep hb, List.append_assoc]; rfl
      by_cases hc : 0 < sp.2
      · by_cases hd : lo < l[i]
        · refine ev_seq (ev_reg (by simp [hc, hd, hb, hlt]; rfl) ?_)  -- region 16
          refine ev_cond rfl (fun hb2 => ?_) (fun hb2 => by simp at hb2)  -- 62
          refine ev_seq (ev_reg (by simp [hb, hlt, hget, hset]; rfl) ?_)  -- region 17
          have hw2 : IntKind.i64.wrap (sp.2 - 1) = sp.2 - 1 := wrap_id (by omega) (by omega)
          refine ev_reg (by simp [hw2]; rfl) ?_  -- region 18
          refine ev_reg (by simp [hw1]; rfl) ?_  -- region 19
          refine ⟨i + 1, ?_, by omega, by omega⟩
          have hm : minI l[i] lo = lo := by simp only [minI, if_pos hd]
          have hw3 : IntKind.i64.wrap (lo + 1) = lo + 1 := wrap_id (by omega) (by omega)
          rw [hsp hb, spreadStep, if_pos ⟨hc, hd⟩]
          simp [hm, hw3]
        · refine ev_seq (ev_reg (by simp [hc, hd, hb, hlt]; rfl) ?_)  -- region 16
          refine ev_cond rfl (fun hb2 => by simp at hb2) (fun hb2 => ?_)  -- 62
          refine ev_skip ?_
          refine ev_reg (by simp [hw1]; rfl) ?_  -- region 19
          exact ⟨i + 1, skip (fun h => hd h.2), by omega, by omega⟩
      · refine ev_seq (ev_reg (by simp [hc, hb, hlt]; rfl) ?_)  -- region 16
        refine ev_cond rfl (fun hb2 => by simp at hb2) (fun hb2 => ?_)  -- 62
        refine ev_skip ?_
        refine ev_reg (by simp [hw1]; rfl) ?_  -- region 19
        exact ⟨i + 1, skip (fun h => hc h.1), by omega, by omega⟩
    · simp at hb
      have hie : i = l.length := by omega
      refine ev_exit ?_  -- 2
      refine ev_seq (ev_reg (by simp; rfl) ?_)  -- region 20
      refine ev_ret ?_
      subst hie
      rw [List.take_length, hL] at hs1
      simp [hspl, sharesOf, hL, hs1, hend rfl]
end Go.Proofs.Ytoafhoihigfllaa.E
namespace Go.Proofs.Ytoafhoihigfllaa.E
open Go Go.RowKit
set_option linter.unusedVariables false
set_option linter.unusedSimpArgs false

theorem v36 (ctx : Ctx) (hC : CtxOk (pg ctx)) (a b c : Int) (r1 r2 r3 : Bool) : Valid Try.prog 36 [(r1, .int .i64 a), (r2, .int .i64 b), (r3, .int .i64 c)] [.fv (.bool (decide (b ≤ a) && decide (a ≤ c)))] := by
  refine valid_of_ev (G := pg ctx) (tok ctx) hC mixed Try.func36 T36 L36 (by simp [Try.ntmps36]) ⟨_, rfl, ?_⟩
  simp only [Try.ntmps36, Try.results36, initSt, initEnv]
  refine ev_seq (ev_reg (by simp; rfl) ?_)  -- region 0
  by_cases h : b ≤ a
  · refine ev_seq (ev_reg (by simp [h]; rfl) ?_)  -- region 1
    refine ev_ret ?_
    simp [h]
  · refine ev_seq (ev_reg (by simp [h, unsetS]; rfl) ?_)  -- region 1
    refine ev_ret ?_
    simp [h]
theorem v38 (ctx : Ctx) (hC : CtxOk (pg ctx)) (l : List Int) (ro : Bool) (c : Bool) (hl : l.length < 2^62) : Valid Try.prog 38 [(ro, .sl c 1 (ints l))] [.fv (.int .i64 (sumI l))] := by
  refine valid_of_ev (G := pg ctx) (tok ctx) hC mixed Try.func38 T38 L38 (by simp [Try.ntmps38]) ⟨_, rfl, ?_⟩
  simp only [Try.ntmps38, Try.results38, initSt, initEnv]
  refine ev_seq (ev_reg (by simp; rfl) ?_)  -- region 0
  refine ev_seq (ev_reg (by simp; rfl) ?_)  -- region 1
  refine ev_seq (ev_seq (ev_reg (by simp; rfl) ?_))  -- region 2
  refine ev_block ?_  -- 0
  refine ev_loop (fun i : Nat => ({ env := [(0, V.fv ro (FV.sl c 1 (ints l))), (3, V.fv false (FV.int .i64 (sumI (l.take i)))), (4, V.fv false (FV.int .i64 i))], blk := [] } : St)) (fun i => l.length - i) (fun i => i ≤ l.length) 0 rfl (by simp) (by simp [R]; omega) (fun i hi => ?_)
  refine ev_seq (ev_seq (ev_reg (by simp; rfl) ?_))  -- region 3
  refine ev_cond rfl (fun hb => ?_) (fun hb => ?_)  -- 8
  · simp at hb
    refine ev_skip ?_
    refine ev_seq (ev_block ?_)  -- 1
    refine ev_reg (by simp [hb]; rfl) ?_  -- region 5
    refine ev_reg (by simp; rfl) ?_  -- region 4
    refine ⟨i + 1, ?_, by omega, by omega⟩
    simp [sumI_take l i hb]
    exact wrap_nat (n := i + 1) (by omega)
  · simp at hb
    refine ev_exit ?_  -- 0
    refine ev_seq (ev_reg (by simp; rfl) ?_)  -- region 6
    refine ev_ret ?_
    simp [List.take_of_length_le hb]
theorem v40 (ctx : Ctx) (hC : CtxOk (pg ctx)) (l : List Int) (n : Int) (hl : l.length < 2^62) (ro r2 c : Bool) : Valid Try.prog 40 [(ro, .sl c 1 (ints l)), (r2, .int .i64 n)] [.fv (.int .i64 (idx (· == n) l))] := by
  refine valid_of_ev (G := pg ctx) (tok ctx) hC mixed Try.func40 T40 L40 (by simp [Try.ntmps40]) ⟨_, rfl, ?_⟩
  simp only [Try.ntmps40, Try.results40, initSt, initEnv]
  refine ev_seq (ev_reg (by simp; rfl) ?_)  -- region 0
  refine ev_seq (ev_seq (ev_reg (by simp; rfl) ?_))  -- region 1
  refine ev_block ?_  -- 0
  refine ev_loop (fun i : Nat => ({ env := [(0, V.fv ro (FV.sl c 1 (ints l))), (1, V.fv r2 (.int .i64 n)), (5, V.fv false (FV.int .i64 i))], blk := [] } : St)) (fun i => l.length - i) (fun i => i ≤ l.length ∧ ∀ x ∈ l.take i, (x == n) = false) 0 rfl (by simp) (by simp [R]; omega) (fun i hi => ?_)
  obtain ⟨hi, hn⟩ := hi
  refine ev_seq (ev_seq (ev_reg (by simp; rfl) ?_))  -- region 2
  refine ev_cond rfl (fun hb => ?_) (fun hb => ?_)  -- 9
  · simp at hb
    refine ev_skip ?_
    refine ev_seq (ev_block ?_)  -- 1
    refine ev_seq (ev_reg (by simp [hb]; rfl) ?_)  -- region 4
    refine ev_cond rfl (fun hb2 => ?_) (fun hb2 => ?_)  -- 17
    · refine ev_seq (ev_reg (by simp; rfl) ?_)  -- region 5
      refine ev_ret ?_
      have := idx_some (p := (· == n)) hb hn hb2
      simp [idx, this]
    · refine ev_skip ?_
      refine ev_reg (by simp; rfl) ?_  -- region 3
      refine ⟨i + 1, ?_, ⟨by omega, take_all (p := (· == n)) hb hn hb2⟩, by omega⟩
      simp
      exact wrap_nat (n := i + 1) (by omega)
  · simp at hb
    refine ev_exit ?_  -- 0
    refine ev_seq (ev_reg (by simp; rfl) ?_)  -- region 6
    refine ev_ret ?_
    have hnone : l.findIdx? (· == n) = none := by
      rw [List.findIdx?_eq_none_iff]
      rw [List.take_of_length_le hb] at hn
      exact hn
    simp [idx, hnone]
theorem v17 (ctx : Ctx) (hC : CtxOk (pg ctx)) (l m : List Int) (hl : l.length < 2^62) (hm : m.length < 2^62) (ro r2 c c2 : Bool) : Valid Try.prog 17 [(ro, .sl c 1 (ints l)), (r2, .sl c2 1 (ints m))] [.fv (.bool (decide (l = m)))] := by
  refine valid_of_ev (G := pg ctx) (tok ctx) hC mixed Try.func17 T17 L17 (by simp [Try.ntmps17]) ⟨_, rfl, ?_⟩
  simp only [Try.ntmps17, Try.results17, initSt, initEnv]
  refine ev_seq (ev_reg (by simp; rfl) ?_)  -- region 0
  refine ev_seq (ev_seq (ev_reg (by simp; rfl) ?_))  -- region 1
  refine ev_cond rfl (fun hb => ?_) (fun hb => ?_)  -- 10
  · simp at hb
    refine ev_seq (ev_reg (by simp; rfl) ?_)  -- region 2
    refine ev_ret ?_
    have : l ≠ m := fun e => hb (by rw [e])
    simp [this]
  · simp at hb
    refine ev_skip ?_
    refine ev_seq (ev_seq (ev_reg (by simp; rfl) ?_))  -- region 3
    refine ev_block ?_  -- 0
    refine ev_loop (fun i : Nat => ({ env := [(0, V.fv ro (FV.sl c 1 (ints l))), (1, V.fv r2 (FV.sl c2 1 (ints m))), (5, V.fv false (FV.int .i64 i))], blk := [] } : St)) (fun i => l.length - i) (fun i => i ≤ l.length ∧ l.take i = m.take i) 0 rfl (by simp) (by simp [R]; omega) (fun i hi => ?_)
    obtain ⟨hi, hn⟩ := hi
    refine ev_seq (ev_seq (ev_reg (by simp; rfl) ?_))  -- region 4
    refine ev_cond rfl (fun hb2 => ?_) (fun hb2 => ?_)  -- 14
    · simp at hb2
      have hb3 : i < m.length := by omega
      refine ev_skip ?_
      refine ev_seq (ev_block ?_)  -- 1
      refine ev_seq (ev_drw rfl (by kernel_rfl) (by kernel_rfl) (by simp [hb2, hb3]; rfl) ?_)  -- region 6
      refine ev_cond rfl (fun hb4 => ?_) (fun hb4 => ?_)  -- 25
      · simp at hb4
        refine ev_seq (ev_reg (by simp; rfl) ?_)  -- region 7
        refine ev_ret ?_
        have : l ≠ m := fun e => by subst e; exact hb4 rfl
        simp [this]
      · simp at hb4
        refine ev_skip ?_
        refine ev_reg (by simp; rfl) ?_  -- region 5
        refine ⟨i + 1, ?_, ⟨by omega, ?_⟩, by omega⟩
        · simp
          exact wrap_nat (n := i + 1) (by omega)
        · rw [List.take_add_one, List.take_add_one, List.getElem?_eq_getElem hb2, List.getElem?_eq_getElem hb3, hn, hb4]
    · simp at hb2
      refine ev_exit ?_  -- 0
      refine ev_seq (ev_reg (by simp; rfl) ?_)  -- region 8
      refine ev_ret ?_
      have : l = m := by
        rw [List.take_of_length_le hb2, List.take_of_length_le (by omega)] at hn
        exact hn
      simp [this]
/-- the rest of a division, from 0 on -/
def modI (n d : Int) : Int := if n.tmod d < 0 then IntKind.i64.wrap (n.tmod d + d) else n.tmod d
theorem v37 (ctx : Ctx) (hC : CtxOk (pg ctx)) (n d : Int) (hd : d ≠ 0) (r1 r2 : Bool) : Valid Try.prog 37 [(r1, .int .i64 n), (r2, .int .i64 d)] [.fv (.int .i64 (modI n d))] := by
  refine valid_of_ev (G := pg ctx) (tok ctx) hC mixed Try.func37 T37 L37 (by simp [Try.ntmps37]) ⟨_, rfl, ?_⟩
  simp only [Try.ntmps37, Try.results37, initSt, initEnv]
  refine ev_seq (ev_reg (by simp; rfl) ?_)  -- region 0
  refine ev_seq (ev_reg (by simp [hd]; rfl) ?_)  -- region 1
  refine ev_seq (ev_seq (ev_reg (by simp; rfl) ?_))  -- region 2
  refine ev_cond rfl (fun hb => ?_) (fun hb => ?_)  -- 10
  · simp at hb
    refine ev_reg (by simp; rfl) ?_  -- region 3
    refine ev_seq (ev_reg (by simp; rfl) ?_)  -- region 4
    refine ev_ret ?_
    simp [modI, hb]
  · simp at hb
    refine ev_skip ?_
    refine ev_seq (ev_reg (by simp; rfl) ?_)  -- region 4
    refine ev_ret ?_
    simp [modI, Int.not_lt.2 hb]
end Go.Proofs.Ytoafhoihigfllaa.E
namespace Go.Proofs.Ytoafhoihigfllaa.E
open Go Go.RowKit
set_option linter.unusedVariables false
set_option linter.unusedSimpArgs false

def H36 (ctx : Ctx) : Prop := ∀ (r1 r2 r3 : Bool) (a b c : Int), ctx 36 [(r1, .int .i64 a), (r2, .int .i64 b), (r3, .int .i64 c)] = some [.fv (.bool (decide (b ≤ a) && decide (a ≤ c)))]
def H38 (ctx : Ctx) : Prop := ∀ (ro c : Bool) (l : List Int), l.length < 2^62 → ctx 38 [(ro, .sl c 1 (ints l))] = some [.fv (.int .i64 (sumI l))]
theorem v50 (ctx : Ctx) (hC : CtxOk (pg ctx)) (q : Int) (l : List Int) (hl : l.length < 2^40) (ro c r3 : Bool) (level : Int) :
    Valid Try.prog 50 [(ro, fClaims q c l), (r3, .int .i64 level)] [.us 1 (ints (atI l level))] := by
  refine valid_of_ev (G := pg ctx) (tok ctx) hC mixed Try.func50 T50 L50 (by simp [Try.ntmps50]) ⟨_, rfl, ?_⟩
  simp only [Try.ntmps50, Try.results50, initSt, initEnv, fClaims]
  refine ev_seq (ev_reg (by simp; rfl) ?_)  -- region 0
  refine ev_seq (ev_reg (by simp; rfl) ?_)  -- region 1
  refine ev_seq (ev_seq (ev_reg (by simp; rfl) ?_))  -- region 2
  refine ev_block ?_  -- 0
  refine ev_loop (fun i : Nat => ({ env := [(1, V.fv r3 (FV.int .i64 level)), (2, V.ptr 2 0), (5, V.own 5 0 i), (6, V.fv false (FV.int .i64 i))], blk := [(2, Blk.box [V.fv false (FV.int .i64 q), V.fv ro (FV.sl c 1 (ints l))]), (5, Blk.arr 1 (ints (atI (l.take i) level)))] } : St)) (fun i => l.length - i) (fun i => i ≤ l.length) 0 rfl (by simp) (by simp [R]; omega) (fun i hi => ?_)
  have hlen : (atI (l.take i) level).length = i := by simp [atI]; omega
  refine ev_seq (ev_seq (ev_reg (by simp; rfl) ?_))  -- region 3
  refine ev_cond rfl (fun hb => ?_) (fun hb => ?_)  -- 11
  · simp at hb
    have h8 : (i + 1) * 8 ≤ 140737488355328 := by omega
    refine ev_skip ?_
    refine ev_seq (ev_block ?_)  -- 1
    refine ev_reg (by simp [hb, hlen, h8]; rfl) ?_  -- region 5
    refine ev_reg (by simp; rfl) ?_  -- region 4
    refine ⟨i + 1, ?_, by omega, by omega⟩
    simp [atI_take hb, minI]
    exact wrap_nat (n := i + 1) (by omega)
  · simp at hb
    refine ev_exit ?_  -- 0
    refine ev_seq (ev_reg (by simp; rfl) ?_)  -- region 6
    refine ev_ret ?_
    have : i = l.length := by omega
    subst this
    simp at hlen
    simp [hlen]
theorem v19 (ctx : Ctx) (hC : CtxOk (pg ctx)) (h36 : H36 ctx) (h38 : H38 ctx) (q : Int) (l : List Int) (hl : l.length < 2^62) (ro c : Bool) :
    Valid Try.prog 19 [(ro, fClaims q c l)] [.fv (.int .i64 (if okClaims q l then 0 else 100))] := by
  refine valid_of_ev (G := pg ctx) (tok ctx) hC mixed Try.func19 T19 L19 (by simp [Try.ntmps19]) ⟨_, rfl, ?_⟩
  simp only [Try.ntmps19, Try.results19, initSt, initEnv, fClaims]
  obtain ⟨A, hA⟩ : ∃ A, A = (decide ((1 : Int) ≤ l.length) && decide ((l.length : Int) ≤ 8)) := ⟨_, rfl⟩
  obtain ⟨D, hD⟩ : ∃ D, D = (decide ((0 : Int) ≤ q) && decide (q ≤ sumI l)) := ⟨_, rfl⟩
  have eA : ∀ (r1 r2 r3 : Bool), ctx 36 [(r1, .int .i64 l.length), (r2, .int .i64 1), (r3, .int .i64 8)] = some [.fv (.bool A)] := fun r1 r2 r3 => by rw [hA]; exact h36 r1 r2 r3 _ _ _
  have eC : ∀ (ro c : Bool), ctx 38 [(ro, .sl c 1 (ints l))] = some [.fv (.int .i64 (sumI l))] := fun ro c => h38 ro c l hl
  have eD : ∀ (r1 r2 r3 : Bool), ctx 36 [(r1, .int .i64 q), (r2, .int .i64 0), (r3, .int .i64 (sumI l))] = some [.fv (.bool D)] := fun r1 r2 r3 => by rw [hD]; exact h36 r1 r2 r3 _ _ _
  have eW : ∀ (r1 r2 r3 : Bool) (n : Int), ctx 36 [(r1, .int .i64 n), (r2, .int .i64 0), (r3, .int .i64 100000)] = some [.fv (.bool (!wrongRight n))] := fun r1 r2 r3 n => by rw [wrongRight, Bool.not_not]; exact h36 r1 r2 r3 _ _ _
  have hok : okClaims q l = (A && !l.any wrongRight && D) := by
    rw [hA, hD, okClaims]
    have h1 : decide (1 ≤ l.length) = decide ((1 : Int) ≤ l.length) := by simp; omega
    have h2 : decide (l.length ≤ 8) = decide ((l.length : Int) ≤ 8) := by simp; omega
    rw [h1, h2]
  rw [hok]
  clear hok hA hD
  refine ev_seq (ev_reg (by simp; rfl) ?_)  -- region 0
  refine ev_seq (ev_reg (by simp [eA]; rfl) ?_)  -- region 1
  refine ev_seq (ev_seq (ev_reg (by simp; rfl) ?_))  -- region 2
  refine ev_block ?_  -- 0
  refine ev_loop (fun x : Nat × Bool => ({ env := [(1, V.ptr 1 0), (3, V.fv false (.bool x.2)), (4, V.fv false (.int .i64 x.1))], blk := [(1, Blk.box [V.fv false (FV.int .i64 q), V.fv ro (FV.sl c 1 (ints l))])] } : St)) (fun x => l.length - x.1) (fun x => x.1 ≤ l.length ∧ x.2 = (A && !(l.take x.1).any wrongRight)) (0, A) rfl (by simp) (by simp [R]; omega) (fun x hi => ?_)
  obtain ⟨i, ok⟩ := x
  obtain ⟨hi, hn⟩ := hi
  simp only at hi hn
  cases ok with
  | true =>
    refine ev_seq (ev_seq (ev_reg (by simp; rfl) ?_))  -- region 3
    refine ev_cond rfl (fun hb => ?_) (fun hb => ?_)  -- 16
    · simp at hb
      refine ev_skip ?_
      refine ev_seq (ev_block ?_)  -- 1
      refine ev_reg (by simp [hb, eW]; rfl) ?_  -- region 5
      refine ev_reg (by simp; rfl) ?_  -- region 4
      refine ⟨(i + 1, !wrongRight l[i]), ?_, ⟨by simp only; omega, ?_⟩, by simp only; omega⟩
      · simp
        exact wrap_nat (n := i + 1) (by omega)
      · simp only [List.take_add_one, List.getElem?_eq_getElem hb, Option.toList_some, List.any_append, List.any_cons, List.any_nil, Bool.or_false, Bool.not_or]
        rw [← Bool.and_assoc, ← hn, Bool.true_and]
    · simp at hb
      have hA : A = true ∧ l.any wrongRight = false := by
        rw [List.take_of_length_le hb] at hn
        simpa using hn.symm
      refine ev_exit ?_  -- 0
      refine ev_seq (ev_seq (ev_drw rfl (by kernel_rfl) (by kernel_rfl) (by simp [T19, eC, eD]; rfl) ?_))  -- region 6
      refine ev_cond rfl (fun hb => ?_) (fun hb => ?_)  -- 35
      · simp at hb
        refine ev_seq (ev_reg (by simp; rfl) ?_)  -- region 7
        refine ev_ret ?_
        simp [hb]
      · simp at hb
        refine ev_skip ?_
        refine ev_seq (ev_reg (by simp; rfl) ?_)  -- region 8
        refine ev_ret ?_
        simp [hb, hA.1, hA.2]
  | false =>
    have hbad : (A && !l.any wrongRight) = false := by
      cases A with
      | false => rfl
      | true =>
        simp only [Bool.true_and, Bool.not_eq_false'] at hn ⊢
        have hn' : (l.take i).any wrongRight = true := by simpa using hn.symm
        rw [List.any_eq_true] at hn' ⊢
        obtain ⟨x, hx, hw⟩ := hn'
        exact ⟨x, List.mem_of_mem_take hx, hw⟩
    refine ev_seq (ev_seq (ev_reg (by simp [unsetS]; rfl) ?_))  -- region 3
    refine ev_cond rfl (fun hb => by simp at hb) (fun hb => ?_)  -- 16
    refine ev_exit ?_  -- 0
    refine ev_seq (ev_seq (ev_drw rfl (by kernel_rfl) (by kernel_rfl) (by simp [T19]; rfl) ?_))  -- region 6
    refine ev_cond rfl (fun hb => ?_) (fun hb => by simp at hb)  -- 35
    refine ev_seq (ev_reg (by simp; rfl) ?_)  -- region 7
    refine ev_ret ?_
    simp [hbad]
end Go.Proofs.Ytoafhoihigfllaa.E
namespace Go.Proofs.Ytoafhoihigfllaa.E
open Go Go.RowKit
set_option linter.unusedVariables false
set_option linter.unusedSimpArgs false

def H19 (ctx : Ctx) : Prop := ∀ (q : Int) (l : List Int) (ro c : Bool), l.length < 2^62 → ctx 19 [(ro, fClaims q c l)] = some [.fv (.int .i64 (if okClaims q l then 0 else 100))]
def H50 (ctx : Ctx) : Prop := ∀ (q : Int) (l : List Int) (ro c r3 : Bool) (level : Int), l.length < 2^40 → ctx 50 [(ro, fClaims q c l), (r3, .int .i64 level)] = some [.us 1 (ints (atI l level))]
/-- the search step by step -/
def lin (q : Int) (l : List Int) : Nat → Int → Int
  | 0, n => n
  | f + 1, n => if sumAt l (n + 1) ≤ q then lin q l f (n + 1) else n
def lvlR (q : Int) (l : List Int) : Int := lin q l 100000 0
theorem v16 (ctx : Ctx) (hC : CtxOk (pg ctx)) (h19 : H19 ctx) (q : Int) (l : List Int) (hl : l.length < 2^62) (ro c : Bool) (hbad : okClaims q l = false) :
    Valid Try.prog 16 [(ro, fClaims q c l)] [.us 1 [], .fv (.int .i64 100)] := by
  refine valid_of_ev (G := pg ctx) (tok ctx) hC mixed Try.func16 T16 L16 (by simp [Try.ntmps16]) ⟨_, rfl, ?_⟩
  simp only [Try.ntmps16, Try.results16, initSt, initEnv, fClaims]
  have e19 := fun ro => h19 q l ro c hl
  simp only [fClaims, hbad] at e19
  refine ev_seq (ev_reg (by simp; rfl) ?_)  -- region 0
  refine ev_seq (ev_seq (ev_reg (by simp [e19]; rfl) ?_))  -- region 1
  refine ev_seq (ev_reg (by simp; rfl) ?_)  -- region 2
  refine ev_cond rfl (fun hb => ?_) (fun hb => by simp at hb)  -- 12
  refine ev_seq (ev_reg (by simp; rfl) ?_)  -- region 3
  refine ev_ret ?_
  simp
theorem v16g (ctx : Ctx) (hC : CtxOk (pg ctx)) (h19 : H19 ctx) (h38 : H38 ctx) (h50 : H50 ctx) (q : Int) (l : List Int) (hl : l.length < 2^40) (ro c : Bool) (hok : okClaims q l = true) :
    Valid Try.prog 16 [(ro, fClaims q c l)] [.us 1 (ints (sharesOf q l (lvlR q l))), .fv (.int .i64 0)] := by
  refine valid_of_ev (G := pg ctx) (tok ctx) hC mixed Try.func16 T16 L16 (by simp [Try.ntmps16]) ⟨_, rfl, ?_⟩
  simp only [Try.ntmps16, Try.results16, initSt, initEnv, fClaims]
  have e18 := fun ro => h19 q l ro c (by omega)
  have e49 := fun ro r3 level => h50 q l ro c r3 level hl
  have hlen : ∀ n, (atI l n).length = l.length := fun n => by simp [atI]
  have htk : ∀ n, (atI l n).take l.length = atI l n := fun n => List.take_of_length_le (by rw [hlen]; omega)
  have e48 := fun ro c n => h38 ro c (atI l n) (by rw [hlen]; omega)
  simp only [fClaims, hok, if_true] at e18 e49
  refine ev_seq (ev_reg (by simp; rfl) ?_)  -- region 0
  refine ev_seq (ev_seq (ev_reg (by simp [e18]; rfl) ?_))  -- region 1
  refine ev_seq (ev_reg (by simp; rfl) ?_)  -- region 2
  refine ev_cond rfl (fun hb => by simp at hb) (fun hb => ?_)  -- 12
  refine ev_skip ?_
  refine ev_seq (ev_reg (by simp; rfl) ?_)  -- region 4
  refine ev_seq (ev_block ?_)  -- 0
  refine ev_loop (fun x : Int => ({ env := [(1, .ptr 1 0), (5, .fv false (.int .i64 x))], blk := [(1, .box [.fv false (.int .i64 q), .fv ro (.sl c 1 (ints l))])] } : St)) (fun x => (100000 - x).toNat) (fun x => 0 ≤ x ∧ x ≤ 100000 ∧ ∃ f : Nat, x + f = 100000 ∧ lin q l f x = lvlR q l) 0 rfl (by simp; exact ⟨100000, by omega, rfl⟩) (by simp [R]) (fun lo hi => ?_)
  obtain ⟨h0, h1, f, h3, h4⟩ := hi
  have hw : IntKind.i64.wrap (lo + 1) = lo + 1 := wrap_id (by omega) (by omega)
  by_cases hc : lo < 100000 ∧ sumI (atI l (lo + 1)) ≤ q
  · obtain ⟨hc1, hc2⟩ := hc
    obtain ⟨f, rfl⟩ : ∃ g, f = g + 1 := ⟨f - 1, by omega⟩
    rw [lin, if_pos (show sumAt l (lo + 1) ≤ q from hc2)] at h4
    refine ev_seq (ev_seq (ev_drw rfl (by kernel_rfl) (by kernel_rfl) (by simp [hc1, hc2, hw, e49, e48]; rfl) ?_))  -- region 5
    refine ev_cond rfl (fun hb => ?_) (fun hb => by simp at hb)  -- 25
    refine ev_skip ?_
    refine ev_block ?_  -- 1
    refine ev_reg (by simp [hw]; rfl) ?_  -- region 6
    exact ⟨lo + 1, rfl, ⟨by omega, by omega, f, by omega, h4⟩, by omega⟩
  · have hlo : lo = lvlR q l := by
      rw [← h4]
      cases f with
      | zero => rfl
      | succ f => rw [lin, if_neg (show ¬ sumAt l (lo + 1) ≤ q from fun h => hc ⟨by omega, h⟩)]
    rw [← hlo]
    have hcs : ¬ lo < 100000 ∨ (lo < 100000 ∧ ¬ sumI (atI l (lo + 1)) ≤ q) := by
      by_cases h : lo < 100000
      · exact .inr ⟨h, fun h2 => hc ⟨h, h2⟩⟩
      · exact .inl h
    clear hlo h4 h3 hc
    rcases hcs with hc1 | ⟨hc1, hc2⟩
    refine ev_seq (ev_seq (ev_drw rfl (by kernel_rfl) (by kernel_rfl) (by simp [hc1, unsetS]; rfl) ?_))  -- region 5
    rotate_left
    refine ev_seq (ev_seq (ev_drw rfl (by kernel_rfl) (by kernel_rfl) (by simp [hc1, hc2, hw, e49, e48]; rfl) ?_))  -- region 5
    all_goals
      refine ev_cond rfl (fun hb => by simp at hb) (fun hb => ?_)  -- 25
      refine ev_exit ?_
      refine ev_seq (ev_reg (by simp [e49, hlen]; rfl) ?_)  -- region 7
      refine ev_seq (ev_drw rfl (by kernel_rfl) (by kernel_rfl) (by simp [e48, hlen, htk]; rfl) ?_)  -- region 8
      refine ev_seq (ev_seq (ev_reg (by simp; rfl) ?_))  -- region 9
      refine ev_block ?_  -- 2
      have hst : ∀ i, i ≤ l.length → (spread lo (IntKind.i64.wrap (q - sumAt l lo)) (l.take i)).1.length = i := fun i hi => spread_length hi
      have hok' := wrap_lt (q - sumAt l lo)
      refine ev_loop (fun i : Nat => ({ env := [(1, .ptr 1 0), (5, .fv false (.int .i64 lo)), (6, .own 6 0 l.length), (7, .fv false (.int .i64 (spread lo (IntKind.i64.wrap (q - sumAt l lo)) (l.take i)).2)), (8, .fv false (.int .i64 i))], blk := [(1, .box [.fv false (.int .i64 q), .fv ro (.sl c 1 (ints l))]), (6, .arr 1 (ints ((spread lo (IntKind.i64.wrap (q - sumAt l lo)) (l.take i)).1 ++ atI (l.drop i) lo)))] } : St)) (fun i => l.length - i) (fun i => i ≤ l.length) 0 (by simp [spread, sumAt]) (by simp) (by simp [R]; omega) (fun i hi => ?_)
      have hsp : ∀ h : i < l.length, spread lo (IntKind.i64.wrap (q - sumAt l lo)) (l.take (i + 1)) = spreadStep lo (spread lo (IntKind.i64.wrap (q - sumAt l lo)) (l.take i)) l[i] := fun h => spread_take h
      have hspl := hst i hi
      have hrange := spread_le (n := lo) (left := IntKind.i64.wrap (q - sumAt l lo)) hi
      generalize hs1 : spread lo (IntKind.i64.wrap (q - sumAt l lo)) (l.take i) = sp at hsp hspl hrange
      clear hst
      generalize hL : IntKind.i64.wrap (q - sumAt l lo) = left0 at hsp hrange hok'
      have hget : ∀ (hb : i < l.length) h, (sp.1 ++ atI (l.drop i) lo)[i]'h = minI l[i] lo := fun hb h => by
        rw [List.getElem_append_right (by omega)]
        simp [atI, hspl]
      have hset : ∀ (hb : i < l.length) v, (sp.1 ++ atI (l.drop i) lo).set i v = sp.1 ++ v :: atI (l.drop (i + 1)) lo := fun hb v => by
        rw [List.set_append_right _ _ (by omega), hspl, Nat.sub_self, List.drop_eq_getElem_cons hb]
        rfl
      have hlt : (sp.1 ++ atI (l.drop i) lo).length = l.length := by simp [atI, hspl]; omega
      have hkeep : ∀ (hb : i < l.length), sp.1 ++ atI (l.drop i) lo = sp.1 ++ minI l[i] lo :: atI (l.drop (i + 1)) lo := fun hb => by
        rw [List.drop_eq_getElem_cons hb]; rfl
      have hend : i = l.length → sp.1 ++ atI (l.drop i) lo = sp.1 := fun e => by rw [e]; simp [atI]
      generalize hout : sp.1 ++ atI (l.drop i) lo = out at hget hset hlt hkeep hend
      refine ev_seq (ev_seq (ev_reg (by simp; rfl) ?_))  -- region 10
      refine ev_cond rfl (fun hb => ?_) (fun hb => ?_)  -- 39
      · simp at hb
        have hw1 : IntKind.i64.wrap ((i : Int) + 1) = (i + 1 : Nat) := wrap_nat (n := i + 1) (by omega)
        refine ev_skip ?_
        refine ev_seq (ev_block ?_)  -- 3
        have skip : ¬ (0 < sp.2 ∧ lo < l[i]) → (⟨[(1, V.ptr 1 0), (5, .fv false (.int .i64 lo)), (6, .own 6 0 l.length), (7, .fv false (.int .i64 sp.2)), (8, .fv false (.int .i64 (i + 1 : Nat)))], [(1, Blk.box [.fv false (.int .i64 q), .fv ro (.sl c 1 (ints l))]), (6, .arr 1 (ints out))], []⟩ : St) = ⟨[(1, V.ptr 1 0), (5, .fv false (.int .i64 lo)), (6, .own 6 0 l.length), (7, .fv false (.int .i64 (spread lo left0 (l.take (i + 1))).2)), (8, .fv false (.int .i64 (i + 1 : Nat)))], [(1, Blk.box [.fv false (.int .i64 q), .fv ro (.sl c 1 (ints l))]), (6, .arr 1 (ints ((spread lo left0 (l.take (i + 1))).1 ++ atI (l.drop (i + 1)) lo)))], []⟩ := fun hn => by
          rw [hsp hb, spreadStep, if_neg hn, hkeep hb, List.append_assoc]; rfl
        by_cases hc : 0 < sp.2
        · by_cases hd : lo < l[i]
          · refine ev_seq (ev_reg (by simp [hc, hd, hb, hlt]; rfl) ?_)  -- region 12
            refine ev_cond rfl (fun hb2 => ?_) (fun hb2 => by simp at hb2)  -- 52
            refine ev_seq (ev_reg (by simp [hb, hlt, hget, hset]; rfl) ?_)  -- region 13
            have hw2 : IntKind.i64.wrap (sp.2 - 1) = sp.2 - 1 := wrap_id (by omega) (by omega)
            refine ev_reg (by simp [hw2]; rfl) ?_  -- region 14
            refine ev_reg (by simp [hw1]; rfl) ?_  -- region 11
            refine ⟨i + 1, ?_, by omega, by omega⟩
            have hm : minI l[i] lo = lo := by simp only [minI, if_pos hd]
            have hw3 : IntKind.i64.wrap (lo + 1) = lo + 1 := wrap_id (by omega) (by omega)
            rw [hsp hb, spreadStep, if_pos ⟨hc, hd⟩]
            simp [hm, hw3]
          · refine ev_seq (ev_reg (by simp [hc, hd, hb, hlt]; rfl) ?_)  -- region 12
            refine ev_cond rfl (fun hb2 => by simp at hb2) (fun hb2 => ?_)  -- 52
            refine ev_skip ?_
            refine ev_reg (by simp [hw1]; rfl) ?_  -- region 11
            exact ⟨i + 1, skip (fun h => hd h.2), by omega, by omega⟩
        · refine ev_seq (ev_reg (by simp [hc, hb, hlt, unsetS]; rfl) ?_)  -- region 12
          refine ev_cond rfl (fun hb2 => by simp at hb2) (fun hb2 => ?_)  -- 52
          refine ev_skip ?_
          refine ev_reg (by simp [hw1]; rfl) ?_  -- region 11
          exact ⟨i + 1, skip (fun h => hc h.1), by omega, by omega⟩
      · simp at hb
        have hie : i = l.length := by omega
        refine ev_exit ?_  -- 2
        refine ev_seq (ev_reg (by simp; rfl) ?_)  -- region 15
        refine ev_ret ?_
        subst hie
        rw [List.take_length, hL] at hs1
        simp [hspl, sharesOf, hL, hs1, hend rfl]
end Go.Proofs.Ytoafhoihigfllaa.E
namespace Go.Proofs.Ytoafhoihigfllaa.E
open Go Go.RowKit
set_option linter.unusedVariables false
def psum (l : List Int) (n : Int) : Int := (l.map (minI · n)).sum
theorem minI_le {x n : Int} : minI x n ≤ n ∨ minI x n ≤ x := by unfold minI; split <;> omega
theorem minI_mono {x n m : Int} (h : n ≤ m) : minI x n ≤ minI x m := by unfold minI; split <;> split <;> omega
theorem psum_mono {n m : Int} (h : n ≤ m) : ∀ (l : List Int), psum l n ≤ psum l m
  | [] => by simp [psum]
  | x :: r => by
    have ih := psum_mono h r
    have := minI_mono (x := x) h
    simp only [psum, List.map_cons, List.sum_cons] at ih ⊢
    omega
theorem psum_zero : ∀ {l : List Int}, (∀ x ∈ l, 0 ≤ x) → psum l 0 = 0
  | [], _ => by simp [psum]
  | x :: r, h => by
    have ih := psum_zero (l := r) fun y hy => h y (List.mem_cons_of_mem _ hy)
    have hx := h x List.mem_cons_self
    simp only [psum, List.map_cons, List.sum_cons] at ih ⊢
    have : minI x 0 = 0 := by unfold minI; split <;> omega
    omega
theorem foldl_sum : ∀ (m : List Int) (a : Int), 0 ≤ a → (∀ x ∈ m, 0 ≤ x ∧ x ≤ 100000) → a + m.length * 100000 ≤ 4611686018427387904 → m.foldl (fun n x => IntKind.i64.wrap (n + x)) a = a + m.sum
  | [], a, _, _, _ => by simp
  | x :: r, a, ha, h, hb => by
    have hx := h x List.mem_cons_self
    simp only [List.length_cons] at hb
    have hw : IntKind.i64.wrap (a + x) = a + x := wrap_id (by omega) (by omega)
    simp only [List.foldl_cons, List.sum_cons, hw]
    rw [foldl_sum r (a + x) (by omega) (fun y hy => h y (List.mem_cons_of_mem _ hy)) (by omega)]
    omega
theorem ok_facts {q : Int} {l : List Int} (h : okClaims q l = true) : l.length ≤ 8 ∧ (∀ x ∈ l, 0 ≤ x ∧ x ≤ 100000) ∧ 0 ≤ q ∧ q ≤ sumI l := by
  simp only [okClaims, Bool.and_eq_true, decide_eq_true_eq, Bool.not_eq_true', List.any_eq_false] at h
  obtain ⟨⟨⟨_, h1⟩, h2⟩, h3, h4⟩ := h
  refine ⟨h1, fun x hx => ?_, h3, h4⟩
  have := h2 x hx
  simpa [wrongRight] using this
theorem sumAt_eq {q : Int} {l : List Int} (h : okClaims q l = true) {n : Int} (hn : 0 ≤ n) : sumAt l n = psum l n := by
  obtain ⟨h1, h2, _, _⟩ := ok_facts h
  have := foldl_sum (l.map (minI · n)) 0 (by omega) (fun x hx => by
    obtain ⟨y, hy, rfl⟩ := List.mem_map.1 hx
    have := h2 y hy
    unfold minI; split <;> omega) (by simp; omega)
  simp only [sumAt, sumI, atI, psum]
  rw [this]; omega
theorem level_unique {q : Int} {l : List Int} (h : okClaims q l = true) {n m : Int} (hn : IsLevel q l n) (hm : IsLevel q l m) : n = m := by
  have key : ∀ {n m : Int}, IsLevel q l n → IsLevel q l m → ¬ n < m := fun {n m} hn hm hlt => by
    obtain ⟨a1, a2, a3, a4⟩ := hn
    obtain ⟨b1, b2, b3, b4⟩ := hm
    rcases a4 with a4 | a4
    · omega
    · rw [sumAt_eq h (by omega)] at a4 b3
      have := psum_mono (show n + 1 ≤ m by omega) l
      omega
  have h1 := key hn hm
  have h2 := key hm hn
  omega
theorem bis_level {q : Int} {l : List Int} : ∀ (f : Nat) {lo hi : Int}, 0 ≤ lo → lo < hi → hi ≤ 100001 → hi - lo ≤ f → sumAt l lo ≤ q → (hi = 100001 ∨ q < sumAt l hi) → IsLevel q l (bis q l f lo hi)
  | 0, lo, hi, _, h1, _, h3, _, _ => by omega
  | f + 1, lo, hi, h0, h1, h2, h3, h4, h5 => by
    rw [bis]
    split
    · split
      · rename_i hd he
        exact bis_level f (by omega) (by omega) h2 (by omega) he h5
      · rename_i hd he
        exact bis_level f h0 (by omega) (by omega) (by omega) h4 (.inr (by omega))
    · have e : hi = lo + 1 := by omega
      subst e
      exact ⟨h0, by omega, h4, h5.imp (by omega) id⟩
theorem lin_level {q : Int} {l : List Int} : ∀ (f : Nat) {n : Int}, 0 ≤ n → n + f = 100000 → sumAt l n ≤ q → IsLevel q l (lin q l f n)
  | 0, n, h0, h1, h2 => ⟨h0, by simp [lin]; omega, h2, .inl (by simp [lin]; omega)⟩
  | f + 1, n, h0, h1, h2 => by
    rw [lin]
    split
    · rename_i h
      exact lin_level f (by omega) (by omega) h
    · rename_i h
      exact ⟨h0, by omega, h2, .inr (by omega)⟩
theorem lvl_eq {q : Int} {l : List Int} (h : okClaims q l = true) : lvlR q l = lvl q l := by
  obtain ⟨h1, h2, h3, h4⟩ := ok_facts h
  have hz : sumAt l 0 ≤ q := by
    rw [sumAt_eq h (by omega), psum_zero fun x hx => (h2 x hx).1]
    exact h3
  exact level_unique h (lin_level 100000 (by omega) (by omega) hz) (bis_level 100001 (by omega) (by omega) (by omega) (by omega) hz (.inl rfl))
/-- what the shares are -/
def sharesA (q : Int) (l : List Int) : List Int := if okClaims q l then sharesOf q l (lvl q l) else []
def codeA (q : Int) (l : List Int) : Int := if okClaims q l then 0 else 100
theorem sharesA_length (q : Int) (l : List Int) : (sharesA q l).length ≤ l.length := by
  unfold sharesA
  split
  · have := spread_length (n := lvl q l) (left := IntKind.i64.wrap (q - sumAt l (lvl q l))) (l := l) (i := l.length) (Nat.le_refl _)
    rw [List.take_length] at this
    rw [sharesOf, this]; exact Nat.le_refl _
  · simp
def H15 (ctx : Ctx) : Prop := ∀ (q : Int) (l : List Int) (ro c : Bool), l.length < 2^62 → ctx 15 [(ro, fClaims q c l)] = some [.us 1 (ints (sharesA q l)), .fv (.int .i64 (codeA q l))]
def H16 (ctx : Ctx) : Prop := ∀ (q : Int) (l : List Int) (ro c : Bool), l.length < 2^62 → ctx 16 [(ro, fClaims q c l)] = some [.us 1 (ints (sharesA q l)), .fv (.int .i64 (codeA q l))]
def H17 (ctx : Ctx) : Prop := ∀ (l m : List Int), l.length < 2^62 → m.length < 2^62 → ∀ (ro r2 c c2 : Bool), ctx 17 [(ro, .sl c 1 (ints l)), (r2, .sl c2 1 (ints m))] = some [.fv (.bool (decide (l = m)))]
theorem w15 (ctx : Ctx) (hC : CtxOk (pg ctx)) (h18 : H18 ctx) (h48 : H48 ctx) (h49 : H49 ctx) (q : Int) (l : List Int) (hl : l.length < 2^62) (ro c : Bool) :
    Valid Try.prog 15 [(ro, fClaims q c l)] [.us 1 (ints (sharesA q l)), .fv (.int .i64 (codeA q l))] := by
  unfold sharesA codeA
  cases h : okClaims q l with
  | false => exact v15 ctx hC h18 h48 h49 q l hl ro c h
  | true => exact v15g ctx hC h18 h48 h49 q l (by have := (ok_facts h).1; omega) ro c h
theorem w16 (ctx : Ctx) (hC : CtxOk (pg ctx)) (h19 : H19 ctx) (h38 : H38 ctx) (h50 : H50 ctx) (q : Int) (l : List Int) (hl : l.length < 2^62) (ro c : Bool) :
    Valid Try.prog 16 [(ro, fClaims q c l)] [.us 1 (ints (sharesA q l)), .fv (.int .i64 (codeA q l))] := by
  unfold sharesA codeA
  cases h : okClaims q l with
  | false => exact v16 ctx hC h19 q l hl ro c h
  | true =>
    rw [← lvl_eq h]
    exact v16g ctx hC h19 h38 h50 q l (by have := (ok_facts h).1; omega) ro c h
theorem v3 (ctx : Ctx) (hC : CtxOk (pg ctx)) (h15 : H15 ctx) (h16 : H16 ctx) (h17 : H17 ctx) (h18 : H18 ctx) (h19 : H19 ctx) (h20 : ctx 20 [] = some [.fv (.bool true)]) (q : Int) (l : List Int) (hl : l.length < 2^62) (ro c : Bool) :
    Valid Try.prog 3 [(ro, fClaims q c l)] [.fv (.bool true)] := by
  refine valid_of_ev (G := pg ctx) (tok ctx) hC mixed Try.func3 T3 L3 (by simp [Try.ntmps3]) ⟨_, rfl, ?_⟩
  simp only [Try.ntmps3, Try.results3, initSt, initEnv, fClaims]
  have e15 := fun ro => h15 q l ro c hl
  have e16 := fun ro => h16 q l ro c hl
  have e18 := fun ro => h18 q l ro c hl
  have e19 := fun ro => h19 q l ro c hl
  have hlen := sharesA_length q l
  have e17 := h17 (sharesA q l) (sharesA q l) (by omega) (by omega)
  simp only [fClaims] at e15 e16 e18 e19
  have htk : (sharesA q l).take (sharesA q l).length = sharesA q l := List.take_of_length_le (Nat.le_refl _)
  refine ev_seq (ev_reg (by simp; rfl) ?_)  -- region 0
  refine ev_seq (ev_reg (by simp [e15]; rfl) ?_)  -- region 1
  refine ev_seq (ev_reg (by simp [e16]; rfl) ?_)  -- region 2
  refine ev_seq (ev_drw rfl (by kernel_rfl) (by kernel_rfl) (by simp [e17, e18, e19, h20, htk]; rfl) ?_)  -- region 3
  refine ev_ret ?_
  simp
end Go.Proofs.Ytoafhoihigfllaa.E
