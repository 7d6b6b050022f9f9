/-
  The chapter of the treaty: the program for the engine: its table of types.
-/
import Derived.Test.YtoafhoihigfllaaFe
import Derived.Test.YtoafhoihigfllaaProg
namespace Go.Proofs.Ytoafhoihigfllaa.E
open Go Go.RowKit
set_option linter.unusedVariables false
noncomputable def tbl : List (Nat × TI) := [(3, ⟨1, 8, [.int .i64 0], .int⟩),
  (4, ⟨1, 1, [.bool false], .bool⟩),
  (22, ⟨1, 24, [.sl true 0 []], (.slice 3)⟩),
  (24, ⟨2, 32, [.int .i64 0, .sl true 0 []], (.struct [(0, 3), (1, 22)])⟩),
  (25, ⟨1, 8, [.int .i64 0], .int⟩),
  (32, ⟨1, 24, [.sl true 0 []], (.slice 22)⟩),
  (42, ⟨1, 24, [.sl true 0 []], (.slice 64)⟩),
  (44, ⟨2, 48, [.sl true 0 [], .sl true 0 []], (.struct [(0, 32), (1, 42)])⟩),
  (64, ⟨2, 32, [.int .i64 0, .sl true 0 []], (.struct [(0, 3), (1, 22)])⟩),
  (66, ⟨2, 16, [.int .i64 0, .int .i64 0], (.array 2 3)⟩),
  (69, ⟨2, 32, [.int .i64 0, .sl true 0 []], (.struct [(0, 24)])⟩),
  (78, ⟨1, 8, [.nilpt], .other⟩),
  (80, ⟨8, 8, [.bool false, .bool false, .bool false, .bool false, .bool false, .bool false, .bool false, .bool false], (.array 8 4)⟩),
  (82, ⟨9, 32, [.sl true 0 [], .bool false, .bool false, .bool false, .bool false, .bool false, .bool false, .bool false, .bool false], (.struct [(0, 32), (1, 80)])⟩),
  (83, ⟨1, 24, [.sl true 0 []], (.slice 4)⟩),
  (88, ⟨1, 8, [.nilfn], .other⟩),
  (92, ⟨2, 48, [.sl true 0 [], .sl true 0 []], (.struct [(0, 44)])⟩),
  (93, ⟨1, 8, [.nilfn], .other⟩),
  (95, ⟨1, 8, [.nilfn], (.struct [(0, 93)])⟩),
  (98, ⟨2, 16, [.int .i64 0, .int .i64 0], (.struct [(0, 3), (1, 3)])⟩),
  (99, ⟨1, 8, [.nilfn], .other⟩),
  (100, ⟨1, 8, [.nilfn], .other⟩),
  (103, ⟨1, 8, [.nilmp], (.map 98 4)⟩),
  (106, ⟨1, 8, [.nilfn], .other⟩),
  (108, ⟨1, 8, [.nilfn], .other⟩)]
@[simp] theorem tb3 : lk 3 tbl = some ⟨1, 8, [.int .i64 0], .int⟩ := rfl
@[simp] theorem tb4 : lk 4 tbl = some ⟨1, 1, [.bool false], .bool⟩ := rfl
@[simp] theorem tb22 : lk 22 tbl = some ⟨1, 24, [.sl true 0 []], (.slice 3)⟩ := rfl
@[simp] theorem tb24 : lk 24 tbl = some ⟨2, 32, [.int .i64 0, .sl true 0 []], (.struct [(0, 3), (1, 22)])⟩ := rfl
@[simp] theorem tb25 : lk 25 tbl = some ⟨1, 8, [.int .i64 0], .int⟩ := rfl
@[simp] theorem tb32 : lk 32 tbl = some ⟨1, 24, [.sl true 0 []], (.slice 22)⟩ := rfl
@[simp] theorem tb42 : lk 42 tbl = some ⟨1, 24, [.sl true 0 []], (.slice 64)⟩ := rfl
@[simp] theorem tb44 : lk 44 tbl = some ⟨2, 48, [.sl true 0 [], .sl true 0 []], (.struct [(0, 32), (1, 42)])⟩ := rfl
@[simp] theorem tb64 : lk 64 tbl = some ⟨2, 32, [.int .i64 0, .sl true 0 []], (.struct [(0, 3), (1, 22)])⟩ := rfl
@[simp] theorem tb66 : lk 66 tbl = some ⟨2, 16, [.int .i64 0, .int .i64 0], (.array 2 3)⟩ := rfl
@[simp] theorem tb69 : lk 69 tbl = some ⟨2, 32, [.int .i64 0, .sl true 0 []], (.struct [(0, 24)])⟩ := rfl
@[simp] theorem tb78 : lk 78 tbl = some ⟨1, 8, [.nilpt], .other⟩ := rfl
@[simp] theorem tb80 : lk 80 tbl = some ⟨8, 8, [.bool false, .bool false, .bool false, .bool false, .bool false, .bool false, .bool false, .bool false], (.array 8 4)⟩ := rfl
@[simp] theorem tb82 : lk 82 tbl = some ⟨9, 32, [.sl true 0 [], .bool false, .bool false, .bool false, .bool false, .bool false, .bool false, .bool false, .bool false], (.struct [(0, 32), (1, 80)])⟩ := rfl
@[simp] theorem tb83 : lk 83 tbl = some ⟨1, 24, [.sl true 0 []], (.slice 4)⟩ := rfl
@[simp] theorem tb88 : lk 88 tbl = some ⟨1, 8, [.nilfn], .other⟩ := rfl
@[simp] theorem tb92 : lk 92 tbl = some ⟨2, 48, [.sl true 0 [], .sl true 0 []], (.struct [(0, 44)])⟩ := rfl
@[simp] theorem tb93 : lk 93 tbl = some ⟨1, 8, [.nilfn], .other⟩ := rfl
@[simp] theorem tb95 : lk 95 tbl = some ⟨1, 8, [.nilfn], (.struct [(0, 93)])⟩ := rfl
@[simp] theorem tb98 : lk 98 tbl = some ⟨2, 16, [.int .i64 0, .int .i64 0], (.struct [(0, 3), (1, 3)])⟩ := rfl
@[simp] theorem tb99 : lk 99 tbl = some ⟨1, 8, [.nilfn], .other⟩ := rfl
@[simp] theorem tb100 : lk 100 tbl = some ⟨1, 8, [.nilfn], .other⟩ := rfl
@[simp] theorem tb103 : lk 103 tbl = some ⟨1, 8, [.nilmp], (.map 98 4)⟩ := rfl
@[simp] theorem tb106 : lk 106 tbl = some ⟨1, 8, [.nilfn], .other⟩ := rfl
@[simp] theorem tb108 : lk 108 tbl = some ⟨1, 8, [.nilfn], .other⟩ := rfl
abbrev Ctx := FuncId → List (Bool × FV) → Option (List TV)
def eqT : List (Nat × (Nat × Bool)) := [(80, (8, true)), (98, (2, false))]
noncomputable def pg (ctx : Ctx) : Pg := { P := Try.prog, tbl := tbl, ctx := ctx, eqs := eqT, keys := [98] }
@[simp] theorem pg_tbl (ctx : Ctx) : (pg ctx).tbl = tbl := rfl
@[simp] theorem pg_ctx (ctx : Ctx) : (pg ctx).ctx = ctx := rfl
@[simp] theorem pg_keys (ctx : Ctx) : (pg ctx).keys = [98] := rfl
@[simp] theorem pg_inl (ctx : Ctx) (k d : Nat) (σ : St) (a : List V) : (pg ctx).inl k d σ a = none := rfl
@[simp] theorem pg_fz (ctx : Ctx) (k : Nat) : (pg ctx).fz k = false := rfl
@[simp] theorem pg_yl (ctx : Ctx) : (pg ctx).yl = none := rfl
@[simp] theorem pg_eqs (ctx : Ctx) : (pg ctx).eqs = [(80, (8, true)), (98, (2, false))] := rfl
theorem tchk : tblChk Try.prog tbl = true := by kernel_rfl
theorem eqv_int {a b : Value} {r : Bool} (h : eqv false a b = some r) : ∃ k x y, a = .int k x ∧ b = .int k y ∧ r = (x == y) := by
  unfold eqv at h
  split at h
  · split at h
    · rename_i hc; obtain ⟨_, rfl⟩ := hc; simp only [Option.some.injEq] at h; exact ⟨_, _, _, rfl, rfl, h.symm⟩
    · simp at h
  · simp at h
  · simp at h
theorem eqv_bool {a b : Value} {r : Bool} (h : eqv true a b = some r) : ∃ x y, a = .bool x ∧ b = .bool y ∧ r = (x == y) := by
  unfold eqv at h
  split at h
  · simp at h
  · simp only [if_true, Option.some.injEq] at h; exact ⟨_, _, rfl, rfl, h.symm⟩
  · simp at h
theorem eqvs_cons {q : Bool} {a b : Value} {ps bs : List Value} {r : Bool} (h : eqvs q (a :: ps) (b :: bs) = some r) : ∃ x y, eqv q a b = some x ∧ eqvs q ps bs = some y ∧ r = (x && y) := by
  simp only [eqvs] at h
  split at h
  · simp only [Option.some.injEq] at h; exact ⟨_, _, ‹_›, ‹_›, h.symm⟩
  · simp at h
theorem eqvs_long {q : Bool} : ∀ {ps bs : List Value} {r : Bool}, eqvs q ps bs = some r → bs.length = ps.length
  | [], [], _, _ => rfl
  | a :: ps, b :: bs, r, h => by obtain ⟨x, y, _, h2, _⟩ := eqvs_cons h; simp [eqvs_long h2]
  | [], _ :: _, _, h => by simp [eqvs] at h
  | _ :: _, [], _, h => by simp [eqvs] at h
theorem part3 {cs : Array Value} {off : Nat} {v : Value} (w : World) (h : cs[off]? = some v) : (part 3 cs off).run Try.prog w = .ok v w := by
  simp [part, isAgg, underlying, Try.underlying3, h]
theorem part4 {cs : Array Value} {off : Nat} {v : Value} (w : World) (h : cs[off]? = some v) : (part 4 cs off).run Try.prog w = .ok v w := by
  simp [part, isAgg, underlying, Try.underlying4, h]
theorem eqin3 (d : Nat) (k : IntKind) (x y : Int) (w : World) : (Op.equalIn (d + 1) 3 (.int k x) (.int k y)).run Try.prog w = .ok (x == y) w := by
  rw [Op.equalIn]; simp [underlying, Try.underlying3]
theorem eqin4 (d : Nat) (x y : Bool) (w : World) : (Op.equalIn (d + 1) 4 (.bool x) (.bool y)).run Try.prog w = .ok (x == y) w := by
  rw [Op.equalIn]; simp [underlying, Try.underlying4]
theorem eq98 : EqIs Try.prog 98 2 false := by
  refine ⟨by kernel_rfl, fun xs ys r w hx h => ?_⟩
  obtain ⟨xs⟩ := xs
  obtain ⟨ys⟩ := ys
  have hl := eqvs_long h
  simp only [List.size_toArray] at hx
  match xs, ys, hx, hl, h with
  | [a, b], [c, d], _, _, h =>
    obtain ⟨p, q, h1, h2, rfl⟩ := eqvs_cons h
    obtain ⟨p', q', h3, h4, rfl⟩ := eqvs_cons h2
    simp only [eqvs, Option.some.injEq] at h4; subst h4
    obtain ⟨k, x, y, rfl, rfl, rfl⟩ := eqv_int h1
    obtain ⟨k', x', y', rfl, rfl, rfl⟩ := eqv_int h3
    unfold Op.equal
    rw [show Op.maxDepth = 9998 + 1 + 1 from rfl, Op.equalIn]
    simp only [underlying, Try.underlying98, Sem.run_bind, run_program, Result.andThen_ok, Sem.run_pure]
    simp [part3 w (show (#[Value.int k x, .int k' x'] : Array Value)[0]? = some _ from rfl), part3 w (show (#[Value.int k x, .int k' x'] : Array Value)[1]? = some _ from rfl), part3 w (show (#[Value.int k y, .int k' y'] : Array Value)[0]? = some _ from rfl), part3 w (show (#[Value.int k y, .int k' y'] : Array Value)[1]? = some _ from rfl),
      eqin3 9998]
    by_cases e1 : x = y
    · subst e1
      by_cases e2 : x' = y'
      · subst e2; simp
      · simp [e2]
    · simp [e1]
theorem loop80 {xs ys : Array Value} (w : World) (f : Nat → Option Bool × Unit → Sem (ForInStep (Option Bool × Unit)))
    (hf : ∀ i x y, xs[i]? = some (.bool x) → ys[i]? = some (.bool y) → (f i (none, ())).run Try.prog w = .ok (if x == y then .yield (none, ()) else .done (some false, ())) w) : ∀ (m i : Nat) (r : Bool), i + m = xs.size → ys.size = xs.size → eqvs true (xs.toList.drop i) (ys.toList.drop i) = some r →
    (forIn (m := Sem) (List.range' i m 1) (none, ()) f).run Try.prog w = .ok (if r then (none, ()) else (some false, ())) w
  | 0, i, r, hm, hy, h => by
    rw [List.drop_eq_nil_of_le (by simp; omega), List.drop_eq_nil_of_le (by simp; omega)] at h
    simp only [eqvs, Option.some.injEq] at h; subst h
    simp
  | m + 1, i, r, hm, hy, h => by
    rw [List.drop_eq_getElem_cons (by simp; omega), List.drop_eq_getElem_cons (l := ys.toList) (by simp; omega)] at h
    obtain ⟨p, q, h1, h2, rfl⟩ := eqvs_cons h
    obtain ⟨x, y, hx, hyv, rfl⟩ := eqv_bool h1
    have e := hf i x y (by rw [← hx]; simp) (by rw [← hyv]; simp)
    simp only [List.range'_succ, List.forIn_cons, Sem.run_bind, e, Result.andThen_ok]
    cases hxy : x == y with
    | true =>
      have ih := loop80 w f hf m (i + 1) q (by omega) hy h2
      simp only [if_true, ih, Bool.true_and]
    | false => simp
theorem eq80 : EqIs Try.prog 80 8 true := by
  refine ⟨by kernel_rfl, fun xs ys r w hx h => ?_⟩
  have hy := eqvs_long h
  unfold Op.equal
  rw [show Op.maxDepth = 9998 + 1 + 1 from rfl, Op.equalIn]
  simp only [underlying, Try.underlying80, Sem.run_bind, run_program, Result.andThen_ok, Sem.run_pure]
  have hsz : (sizeOf 4).run Try.prog w = .ok 1 w := by kernel_rfl
  simp only [hsz, Result.andThen_ok, Std.Legacy.Range.forIn_eq_forIn_range', Std.Legacy.Range.size, Nat.sub_zero, Nat.add_one_sub_one, Nat.div_one]
  have := loop80 (xs := xs) (ys := ys) w (fun i s => do
      let a ← part 4 xs (i * 1)
      let b ← part 4 ys (i * 1)
      let e ← Op.equalIn (9998 + 1) 4 a b
      if (!e) = true then pure (ForInStep.done (some false, ())) else pure (ForInStep.yield (none, ()))) (fun i x y h1 h2 => by
    simp only [Nat.mul_one, Sem.run_bind, part4 w h1, part4 w h2, Result.andThen_ok, eqin4]
    cases x == y <;> rfl) 8 0 r (by omega) (by simpa using hy) (by simpa using h)
  rw [this]
  cases r <;> rfl
theorem ck3 (em : Bool) (d : Nat) (k : IntKind) (x : Int) (w : World) : (Instr.checkKey em (d + 1) 3 (.int k x)).run Try.prog w = .ok () w := by
  rw [Instr.checkKey]; simp [underlying, Try.underlying3]
theorem key98 (xs : Array Value) (em : Bool) (w : World) (hx : xs.size = 2) (h : eqvs false xs.toList xs.toList = some true) : (Instr.checkKey em 10000 98 (.agg xs)).run Try.prog w = .ok () w := by
  obtain ⟨xs⟩ := xs
  simp only [List.size_toArray] at hx
  match xs, hx, h with
  | [a, b], _, h =>
    obtain ⟨p, q, h1, h2, _⟩ := eqvs_cons h
    obtain ⟨p', q', h3, h4, _⟩ := eqvs_cons h2
    obtain ⟨k, x, y, rfl, _, _⟩ := eqv_int h1
    obtain ⟨k', x', y', rfl, _, _⟩ := eqv_int h3
    rw [show (10000 : Nat) = 9998 + 1 + 1 from rfl, Instr.checkKey]
    simp only [underlying, Try.underlying98, Sem.run_bind, run_program, Result.andThen_ok, Sem.run_pure]
    simp [part3 w (show (#[Value.int k x, .int k' x'] : Array Value)[0]? = some _ from rfl), part3 w (show (#[Value.int k x, .int k' x'] : Array Value)[1]? = some _ from rfl), ck3]
theorem tok (ctx : Ctx) : TOk (pg ctx) := TOk_of_chk (G := pg ctx) tchk (fun t n h => by
  simp only [pg_eqs, lk] at h
  split at h
  · rename_i e; subst e; simp only [Option.some.injEq] at h; subst h; exact eq80
  · split at h
    · rename_i e; subst e; simp only [Option.some.injEq] at h; subst h; exact eq98
    · simp at h) (fun t n ht h xs em w hx he => by
  simp only [pg_keys, List.mem_singleton] at ht
  subst ht
  simp [lk] at h
  subst h
  exact key98 xs em w hx he)
theorem mixed : Try.prog.follows .mixedOrders = true := by kernel_rfl
end Go.Proofs.Ytoafhoihigfllaa.E
