/-
  The chapter of the treaty: the program for the engine: its table of types.
-/
import Derived.Test.YtidiigajhbegeaaFe
import Derived.Test.YtidiigajhbegeaaProg
namespace Go.Proofs.Ytidiigajhbegeaa.E
open Go Go.RowKit
set_option linter.unusedVariables false
noncomputable def tbl : List (Nat × TI) := [(3, ⟨1, 8, [.int .i64 0], (.int .i64)⟩),
  (4, ⟨1, 1, [.bool false], .bool⟩),
  (22, ⟨1, 24, [.sl true 0 []], (.slice 3)⟩),
  (24, ⟨2, 32, [.int .i64 0, .sl true 0 []], (.struct [(0, 3), (1, 22)])⟩),
  (26, ⟨1, 24, [.sl true 0 []], (.slice 24)⟩),
  (27, ⟨1, 8, [.int .i64 0], (.int .i64)⟩),
  (31, ⟨1, 24, [.sl true 0 []], (.slice 22)⟩),
  (32, ⟨1, 24, [.sl true 0 []], (.slice 31)⟩),
  (39, ⟨1, 24, [.sl true 0 []], (.slice 45)⟩),
  (41, ⟨2, 48, [.sl true 0 [], .sl true 0 []], (.struct [(0, 31), (1, 39)])⟩),
  (43, ⟨1, 24, [.sl true 0 []], (.slice 41)⟩),
  (45, ⟨2, 32, [.int .i64 0, .sl true 0 []], (.struct [(0, 3), (1, 22)])⟩),
  (53, ⟨2, 32, [.int .i64 0, .sl true 0 []], (.struct [(0, 24)])⟩),
  (59, ⟨1, 8, [.nilpt], (.ptr 63)⟩),
  (61, ⟨8, 8, [.bool false, .bool false, .bool false, .bool false, .bool false, .bool false, .bool false, .bool false], (.array 8 4)⟩),
  (63, ⟨9, 32, [.sl true 0 [], .bool false, .bool false, .bool false, .bool false, .bool false, .bool false, .bool false, .bool false], (.struct [(0, 31), (1, 61)])⟩),
  (65, ⟨1, 8, [.nilfn], .other⟩),
  (69, ⟨2, 48, [.sl true 0 [], .sl true 0 []], (.struct [(0, 41)])⟩),
  (70, ⟨1, 8, [.nilfn], .other⟩),
  (72, ⟨1, 8, [.nilfn], (.struct [(0, 70)])⟩),
  (75, ⟨2, 16, [.int .i64 0, .int .i64 0], (.struct [(0, 3), (1, 3)])⟩),
  (76, ⟨1, 8, [.nilfn], .other⟩),
  (77, ⟨1, 8, [.nilfn], .other⟩),
  (80, ⟨1, 8, [.nilmp], (.map 75 4)⟩),
  (83, ⟨1, 8, [.nilfn], .other⟩),
  (86, ⟨1, 8, [.nilfn], .other⟩)]
@[simp] theorem tb3 : lk 3 tbl = some ⟨1, 8, [.int .i64 0], (.int .i64)⟩ := rfl
@[simp] theorem tb4 : lk 4 tbl = some ⟨1, 1, [.bool false], .bool⟩ := rfl
@[simp] theorem tb22 : lk 22 tbl = some ⟨1, 24, [.sl true 0 []], (.slice 3)⟩ := rfl
@[simp] theorem tb24 : lk 24 tbl = some ⟨2, 32, [.int .i64 0, .sl true 0 []], (.struct [(0, 3), (1, 22)])⟩ := rfl
@[simp] theorem tb26 : lk 26 tbl = some ⟨1, 24, [.sl true 0 []], (.slice 24)⟩ := rfl
@[simp] theorem tb27 : lk 27 tbl = some ⟨1, 8, [.int .i64 0], (.int .i64)⟩ := rfl
@[simp] theorem tb31 : lk 31 tbl = some ⟨1, 24, [.sl true 0 []], (.slice 22)⟩ := rfl
@[simp] theorem tb32 : lk 32 tbl = some ⟨1, 24, [.sl true 0 []], (.slice 31)⟩ := rfl
@[simp] theorem tb39 : lk 39 tbl = some ⟨1, 24, [.sl true 0 []], (.slice 45)⟩ := rfl
@[simp] theorem tb41 : lk 41 tbl = some ⟨2, 48, [.sl true 0 [], .sl true 0 []], (.struct [(0, 31), (1, 39)])⟩ := rfl
@[simp] theorem tb43 : lk 43 tbl = some ⟨1, 24, [.sl true 0 []], (.slice 41)⟩ := rfl
@[simp] theorem tb45 : lk 45 tbl = some ⟨2, 32, [.int .i64 0, .sl true 0 []], (.struct [(0, 3), (1, 22)])⟩ := rfl
@[simp] theorem tb53 : lk 53 tbl = some ⟨2, 32, [.int .i64 0, .sl true 0 []], (.struct [(0, 24)])⟩ := rfl
@[simp] theorem tb59 : lk 59 tbl = some ⟨1, 8, [.nilpt], (.ptr 63)⟩ := rfl
@[simp] theorem tb61 : lk 61 tbl = some ⟨8, 8, [.bool false, .bool false, .bool false, .bool false, .bool false, .bool false, .bool false, .bool false], (.array 8 4)⟩ := rfl
@[simp] theorem tb63 : lk 63 tbl = some ⟨9, 32, [.sl true 0 [], .bool false, .bool false, .bool false, .bool false, .bool false, .bool false, .bool false, .bool false], (.struct [(0, 31), (1, 61)])⟩ := rfl
@[simp] theorem tb65 : lk 65 tbl = some ⟨1, 8, [.nilfn], .other⟩ := rfl
@[simp] theorem tb69 : lk 69 tbl = some ⟨2, 48, [.sl true 0 [], .sl true 0 []], (.struct [(0, 41)])⟩ := rfl
@[simp] theorem tb70 : lk 70 tbl = some ⟨1, 8, [.nilfn], .other⟩ := rfl
@[simp] theorem tb72 : lk 72 tbl = some ⟨1, 8, [.nilfn], (.struct [(0, 70)])⟩ := rfl
@[simp] theorem tb75 : lk 75 tbl = some ⟨2, 16, [.int .i64 0, .int .i64 0], (.struct [(0, 3), (1, 3)])⟩ := rfl
@[simp] theorem tb76 : lk 76 tbl = some ⟨1, 8, [.nilfn], .other⟩ := rfl
@[simp] theorem tb77 : lk 77 tbl = some ⟨1, 8, [.nilfn], .other⟩ := rfl
@[simp] theorem tb80 : lk 80 tbl = some ⟨1, 8, [.nilmp], (.map 75 4)⟩ := rfl
@[simp] theorem tb83 : lk 83 tbl = some ⟨1, 8, [.nilfn], .other⟩ := rfl
@[simp] theorem tb86 : lk 86 tbl = some ⟨1, 8, [.nilfn], .other⟩ := rfl
abbrev Ctx := FuncId → List (Bool × FV) → Option (List TV)
def eqT : List (Nat × List Sc) := [(61, [.bool, .bool, .bool, .bool, .bool, .bool, .bool, .bool]), (75, [.int, .int])]
noncomputable def pg (ctx : Ctx) : Pg := { P := Try.prog, tbl := tbl, ctx := ctx, eqs := eqT, keys := [75], deep := [43] }
@[simp] theorem pg_tbl (ctx : Ctx) : (pg ctx).tbl = tbl := rfl
@[simp] theorem pg_ctx (ctx : Ctx) : (pg ctx).ctx = ctx := rfl
@[simp] theorem pg_keys (ctx : Ctx) : (pg ctx).keys = [75] := rfl
@[simp] theorem pg_inl (ctx : Ctx) (k d : Nat) (σ : St) (a : List V) : (pg ctx).inl k d σ a = none := rfl
@[simp] theorem pg_fz (ctx : Ctx) (k : Nat) : (pg ctx).fz k = false := rfl
@[simp] theorem pg_yl (ctx : Ctx) : (pg ctx).yl = none := rfl
@[simp] theorem pg_eqs (ctx : Ctx) : (pg ctx).eqs = [(61, [.bool, .bool, .bool, .bool, .bool, .bool, .bool, .bool]), (75, [.int, .int])] := rfl
@[simp] theorem pg_deep (ctx : Ctx) : (pg ctx).deep = [43] := rfl
@[simp] theorem pg_pin (ctx : Ctx) : (pg ctx).pin = [] := rfl
@[simp] theorem pg_itrH (ctx : Ctx) (k : Nat) (b : List (Nat × Blk)) (c : List V) : (pg ctx).itrH k b c = none := rfl
theorem tchk : tblChk Try.prog tbl = true := by kernel_rfl
theorem eqv_int {a b : Value} {r : Bool} (h : eqv .int a b = some r) : ∃ k x y, a = .int k x ∧ b = .int k y ∧ r = (x == y) := by
  unfold eqv at h
  split at h
  · split at h
    · rename_i hc; subst hc; simp only [Option.some.injEq] at h; exact ⟨_, _, _, rfl, rfl, h.symm⟩
    · simp at h
  · contradiction
  · contradiction
  · simp at h
theorem eqv_bool {a b : Value} {r : Bool} (h : eqv .bool a b = some r) : ∃ x y, a = .bool x ∧ b = .bool y ∧ r = (x == y) := by
  unfold eqv at h
  split at h
  · contradiction
  · simp only [Option.some.injEq] at h; exact ⟨_, _, rfl, rfl, h.symm⟩
  · contradiction
  · simp at h
theorem eqvs_cons {q : Sc} {qs : List Sc} {a b : Value} {ps bs : List Value} {r : Bool} (h : eqvs (q :: qs) (a :: ps) (b :: bs) = some r) : ∃ x y, eqv q a b = some x ∧ eqvs qs ps bs = some y ∧ r = (x && y) := by
  simp only [eqvs] at h
  split at h
  · simp only [Option.some.injEq] at h; exact ⟨_, _, ‹_›, ‹_›, h.symm⟩
  · simp at h
theorem part3 {cs : Array Value} {off : Nat} {v : Value} (w : World) (h : cs[off]? = some v) : (part 3 cs off).run Try.prog w = .ok v w := by
  simp [part, isAgg, underlying, Try.underlying3, h]
theorem part4 {cs : Array Value} {off : Nat} {v : Value} (w : World) (h : cs[off]? = some v) : (part 4 cs off).run Try.prog w = .ok v w := by
  simp [part, isAgg, underlying, Try.underlying4, h]
theorem eqin3 (d : Nat) (k : IntKind) (x y : Int) (w : World) : (Op.equalIn (d + 1) 3 (.int k x) (.int k y)).run Try.prog w = .ok (x == y) w := by
  rw [Op.equalIn]; simp [underlying, Try.underlying3]
theorem eqin4 (d : Nat) (x y : Bool) (w : World) : (Op.equalIn (d + 1) 4 (.bool x) (.bool y)).run Try.prog w = .ok (x == y) w := by
  rw [Op.equalIn]; simp [underlying, Try.underlying4]
theorem eq75 : EqIs Try.prog 75 [.int, .int] := by
  refine ⟨by kernel_rfl, fun xs ys r w h => ?_⟩
  obtain ⟨xs⟩ := xs
  obtain ⟨ys⟩ := ys
  have hl := eqvs_len h
  match xs, ys, hl, h with
  | [a, b], [c, d], _, h =>
    obtain ⟨p, q, h1, h2, rfl⟩ := eqvs_cons h
    obtain ⟨p', q', h3, h4, rfl⟩ := eqvs_cons h2
    simp only [eqvs, Option.some.injEq] at h4; subst h4
    obtain ⟨k, x, y, rfl, rfl, rfl⟩ := eqv_int h1
    obtain ⟨k', x', y', rfl, rfl, rfl⟩ := eqv_int h3
    unfold Op.equal
    rw [show Op.maxDepth = 9998 + 1 + 1 from rfl, Op.equalIn]
    simp only [underlying, Try.underlying75, Sem.run_bind, run_program, Result.andThen_ok, Sem.run_pure]
    simp [part3 w (show (#[Value.int k x, .int k' x'] : Array Value)[0]? = some _ from rfl), part3 w (show (#[Value.int k x, .int k' x'] : Array Value)[1]? = some _ from rfl), part3 w (show (#[Value.int k y, .int k' y'] : Array Value)[0]? = some _ from rfl), part3 w (show (#[Value.int k y, .int k' y'] : Array Value)[1]? = some _ from rfl),
      eqin3 9998]
    by_cases e1 : x = y
    · subst e1
      by_cases e2 : x' = y'
      · subst e2; simp
      · simp [e2]
    · simp [e1]
theorem loop61 {xs ys : Array Value} (w : World) (f : Nat → Option Bool × Unit → Sem (ForInStep (Option Bool × Unit)))
    (hf : ∀ i x y, xs[i]? = some (.bool x) → ys[i]? = some (.bool y) → (f i (none, ())).run Try.prog w = .ok (if x == y then .yield (none, ()) else .done (some false, ())) w) : ∀ (m i : Nat) (r : Bool), i + m = xs.size → ys.size = xs.size → eqvs (List.replicate m .bool) (xs.toList.drop i) (ys.toList.drop i) = some r →
    (forIn (m := Sem) (List.range' i m 1) (none, ()) f).run Try.prog w = .ok (if r then (none, ()) else (some false, ())) w
  | 0, i, r, hm, hy, h => by
    rw [List.drop_eq_nil_of_le (by simp; omega), List.drop_eq_nil_of_le (by simp; omega)] at h
    simp only [List.replicate_zero, eqvs, Option.some.injEq] at h; subst h
    simp
  | m + 1, i, r, hm, hy, h => by
    rw [List.drop_eq_getElem_cons (by simp; omega), List.drop_eq_getElem_cons (l := ys.toList) (by simp; omega)] at h
    rw [List.replicate_succ] at h
    obtain ⟨p, q, h1, h2, rfl⟩ := eqvs_cons h
    obtain ⟨x, y, hx, hyv, rfl⟩ := eqv_bool h1
    have e := hf i x y (by rw [← hx]; simp) (by rw [← hyv]; simp)
    simp only [List.range'_succ, List.forIn_cons, Sem.run_bind, e, Result.andThen_ok]
    cases hxy : x == y with
    | true =>
      have ih := loop61 w f hf m (i + 1) q (by omega) hy h2
      simp only [if_true, ih, Bool.true_and]
    | false => simp
theorem eq61 : EqIs Try.prog 61 [.bool, .bool, .bool, .bool, .bool, .bool, .bool, .bool] := by
  refine ⟨by kernel_rfl, fun xs ys r w h => ?_⟩
  obtain ⟨hx0, hy0⟩ := eqvs_len h
  have hx : xs.size = 8 := by simpa using hx0
  have hy : ys.size = xs.size := by rw [hx]; simpa using hy0
  unfold Op.equal
  rw [show Op.maxDepth = 9998 + 1 + 1 from rfl, Op.equalIn]
  simp only [underlying, Try.underlying61, Sem.run_bind, run_program, Result.andThen_ok, Sem.run_pure]
  have hsz : (sizeOf 4).run Try.prog w = .ok 1 w := by kernel_rfl
  simp only [hsz, Result.andThen_ok, Std.Legacy.Range.forIn_eq_forIn_range', Std.Legacy.Range.size, Nat.sub_zero, Nat.add_one_sub_one, Nat.div_one]
  have := loop61 (xs := xs) (ys := ys) w (fun i s => do
      let a ← part 4 xs (i * 1)
      let b ← part 4 ys (i * 1)
      let e ← Op.equalIn (9998 + 1) 4 a b
      if (!e) = true then pure (ForInStep.done (some false, ())) else pure (ForInStep.yield (none, ()))) (fun i x y h1 h2 => by
    simp only [Nat.mul_one, Sem.run_bind, part4 w h1, part4 w h2, Result.andThen_ok, eqin4]
    cases x == y <;> rfl) 8 0 r (by omega) hy (by simpa using h)
  rw [this]
  cases r <;> rfl
theorem ck3 (em : Bool) (d : Nat) (k : IntKind) (x : Int) (w : World) : (Instr.checkKey em (d + 1) 3 (.int k x)).run Try.prog w = .ok () w := by
  rw [Instr.checkKey]; simp [underlying, Try.underlying3]
theorem key75 (xs : Array Value) (em : Bool) (w : World) (h : eqvs [.int, .int] xs.toList xs.toList = some true) : (Instr.checkKey em 10000 75 (.agg xs)).run Try.prog w = .ok () w := by
  obtain ⟨xs⟩ := xs
  have hl := (eqvs_len h).1
  match xs, hl, h with
  | [a, b], _, h =>
    obtain ⟨p, q, h1, h2, _⟩ := eqvs_cons h
    obtain ⟨p', q', h3, h4, _⟩ := eqvs_cons h2
    obtain ⟨k, x, y, rfl, _, _⟩ := eqv_int h1
    obtain ⟨k', x', y', rfl, _, _⟩ := eqv_int h3
    rw [show (10000 : Nat) = 9998 + 1 + 1 from rfl, Instr.checkKey]
    simp only [underlying, Try.underlying75, Sem.run_bind, run_program, Result.andThen_ok, Sem.run_pure]
    simp [part3 w (show (#[Value.int k x, .int k' x'] : Array Value)[0]? = some _ from rfl), part3 w (show (#[Value.int k x, .int k' x'] : Array Value)[1]? = some _ from rfl), ck3]
theorem tok (ctx : Ctx) : TOk (pg ctx) := TOk_of_chk (G := pg ctx) tchk (fun t n h => by
  simp only [pg_eqs, lk] at h
  split at h
  · rename_i e; subst e; simp only [Option.some.injEq] at h; subst h; exact eq61
  · split at h
    · rename_i e; subst e; simp only [Option.some.injEq] at h; subst h; exact eq75
    · simp at h) (fun t n ht h xs em w he => by
  simp only [pg_keys, List.mem_singleton] at ht
  subst ht
  simp [lk] at h
  subst h
  exact key75 xs em w he)
theorem mixed : Try.prog.follows .mixedOrders = true := by kernel_rfl
end Go.Proofs.Ytidiigajhbegeaa.E
