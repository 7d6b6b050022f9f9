/-
  The chapter of the treaty: shares. Conditions: none.
-/
import Derived.Test.YtoafhoihigfllaaTc
namespace Go.Proofs.Ytoafhoihigfllaa.E
open Go Go.RowKit
set_option linter.unusedVariables false
set_option linter.unusedSimpArgs false
def minI (a b : Int) : Int := if b < a then b else a
theorem v74 (ctx : Ctx) (hC : CtxOk (pg ctx)) (q : Int) (l : List Int) (ro c r2 r3 : Bool) (n : Nat) (level : Int) (hn : n < l.length) :
    Valid Try.prog 74 [(ro, fClaims q c l), (r2, .int .i64 n), (r3, .int .i64 level)] [.fv (.int .i64 (minI l[n] level))] := by
  refine valid_of_ev (G := pg ctx) (tok ctx) hC mixed Try.func74 T74 L74 (by simp [Try.ntmps74]) ⟨_, rfl, ?_⟩
  simp only [Try.ntmps74, Try.results74, initSt, initEnv, fClaims]
  refine ev_seq (ev_reg (by simp; rfl) ?_)  -- region 0
  refine ev_seq (ev_reg (by simp [hn]; rfl) ?_)  -- region 1
  refine ev_ret ?_
  simp [minI]
def H74 (ctx : Ctx) : Prop := ∀ (q : Int) (l : List Int) (ro c r2 r3 : Bool) (n : Nat) (level : Int) (hn : n < l.length), ctx 74 [(ro, fClaims q c l), (r2, .int .i64 n), (r3, .int .i64 level)] = some [.fv (.int .i64 (minI l[n] level))]
def atI (l : List Int) (level : Int) : List Int := l.map (minI · level)
theorem atI_take {l : List Int} {level : Int} {i : Nat} (h : i < l.length) : atI (l.take (i + 1)) level = atI (l.take i) level ++ [minI l[i] level] := by
  simp only [atI, List.take_add_one, List.getElem?_eq_getElem h, Option.toList_some, List.map_append, List.map_cons, List.map_nil]
theorem v49 (ctx : Ctx) (hC : CtxOk (pg ctx)) (h74 : H74 ctx) (q : Int) (l : List Int) (hl : l.length < 2^40) (ro c r3 : Bool) (level : Int) :
    Valid Try.prog 49 [(ro, fClaims q c l), (r3, .int .i64 level)] [.us 1 (ints (atI l level))] := by
  refine valid_of_ev (G := pg ctx) (tok ctx) hC mixed Try.func49 T49 L49 (by simp [Try.ntmps49]) ⟨_, rfl, ?_⟩
  simp only [Try.ntmps49, Try.results49, initSt, initEnv, fClaims]
  refine ev_seq (ev_reg (by simp; rfl) ?_)  -- region 0
  refine ev_seq (ev_reg (by simp; rfl) ?_)  -- region 1
  refine ev_seq (ev_reg (by simp; rfl) ?_)  -- region 2
  refine ev_seq (ev_seq (ev_reg (by simp; rfl) ?_))  -- region 3
  refine ev_block ?_  -- 0
  refine ev_loop (fun i : Nat => ({ env := [(1, V.fv r3 (FV.int .i64 level)), (2, V.ptr 2 0), (5, V.fv false (FV.fn (Fn.func 74) [] [])), (6, V.own 6 0 i), (11, V.fv false (FV.int .i64 l.length)), (12, V.fv false (FV.int .i64 i))], blk := [(2, Blk.box [V.fv false (FV.int .i64 q), V.fv ro (FV.sl c 1 (ints l))]), (6, Blk.arr 1 (ints (atI (l.take i) level)))] } : St)) (fun i => l.length - i) (fun i => i ≤ l.length) 0 rfl (by simp) (by simp [R]; omega) (fun i hi => ?_)
  have hlen : (atI (l.take i) level).length = i := by simp [atI]; omega
  refine ev_seq (ev_reg (by simp; rfl) ?_)  -- region 4
  refine ev_seq (ev_cond rfl (fun hb => ?_) (fun hb => ?_))  -- 13
  · simp at hb
    have e74 := fun ro r2 r3 => h74 q l ro c r2 r3 i level hb
    simp only [fClaims] at e74
    have h8 : (i + 1) * 8 ≤ 140737488355328 := by omega
    refine ev_skip ?_
    refine ev_seq (ev_block ?_)  -- 1
    refine ev_seq (ev_reg (by simp; rfl) ?_)  -- region 5
    refine ev_reg (by simp [e74, hlen, h8]; rfl) ?_  -- region 6
    refine ev_reg (by simp; rfl) ?_  -- region 7
    refine ⟨i + 1, ?_, by omega, by omega⟩
    simp [atI_take hb]
    exact wrap_nat (n := i + 1) (by omega)
  · simp at hb
    refine ev_exit ?_  -- 0
    refine ev_seq (ev_reg (by simp; rfl) ?_)  -- region 8
    refine ev_ret ?_
    have : i = l.length := by omega
    subst this
    simp at hlen
    simp [hlen]
end Go.Proofs.Ytoafhoihigfllaa.E
