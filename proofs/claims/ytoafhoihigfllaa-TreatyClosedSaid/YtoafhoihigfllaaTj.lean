/-
  The chapter of the treaty: what has been said of the functions of the shares, gathered; and the law of the shares. Conditions: none.
-/
import Derived.Test.YtoafhoihigfllaaGe
import Derived.Test.YtoafhoihigfllaaTx
import Derived.Test.YtoafhoihigfllaaTo
namespace Go.Proofs.Ytoafhoihigfllaa.E
open Go Go.RowKit
set_option linter.unusedVariables false
abbrev Fm := Fam Try.prog
theorem fam_ctx (L : List Fm) : CtxOk (pg (famCtx L)) :=
  ⟨fun k xs res h => fam_ok h, fun k cells xs res h => (by cases h), fun k sz xs ys h => (by cases h), fun k d σ args σ' vs h => (by cases h), fun k caps xs h => (by cases h), fun k caps xs i h => (by cases h)⟩
theorem enters_of {k : FuncId} {fn : Func} (h : Try.prog.funcs[k]? = some fn) (h2 : fnChk ⟨fn, [], [], true, false⟩ = true) : Enters Try.prog k :=
  enters_tab (T := [(k, ⟨fn, [], [], true, false⟩)]) (f := ⟨fn, [], [], true, false⟩) ⟨⟨h, h2⟩, trivial⟩ (by simp [lk])
/-- a list of at most 2^62 numbers -/
abbrev Sm := { l : List Int // l.length < 2^62 }
noncomputable def F48 : Fm where
  k := 48
  α := Bool × Bool × Sm
  f := fun x => [(x.1, .sl x.2.1 1 (ints x.2.2.1))]
  g := fun x => [.fv (.int .i64 (sumI x.2.2.1))]
  inj := fun ⟨a, b, l, hl⟩ ⟨a', b', l', hl'⟩ h => by simp [ints_inj] at h; simp [h.2.2]
  ok := fun ⟨a, b, l, hl⟩ => v48 _ (fam_ctx []) l a b hl
  en := enters_of Try.func48 (by kernel_rfl)
noncomputable def F38 : Fm where
  k := 38
  α := Bool × Bool × Sm
  f := fun x => [(x.1, .sl x.2.1 1 (ints x.2.2.1))]
  g := fun x => [.fv (.int .i64 (sumI x.2.2.1))]
  inj := fun ⟨a, b, l, hl⟩ ⟨a', b', l', hl'⟩ h => by simp [ints_inj] at h; simp [h.2.2]
  ok := fun ⟨a, b, l, hl⟩ => v38 _ (fam_ctx []) l a b hl
  en := enters_of Try.func38 (by kernel_rfl)
abbrev B3 := (Bool × Bool × Bool) × (Int × Int × Int)
noncomputable def F51 : Fm where
  k := 51
  α := B3
  f := fun x => [(x.1.1, .int .i64 x.2.1), (x.1.2.1, .int .i64 x.2.2.1), (x.1.2.2, .int .i64 x.2.2.2)]
  g := fun x => [.fv (.bool (decide (x.2.2.1 ≤ x.2.1) && decide (x.2.1 ≤ x.2.2.2)))]
  inj := fun ⟨⟨a, b, c⟩, p, q, r⟩ ⟨⟨a', b', c'⟩, p', q', r'⟩ h => by simp at h; simp [h]
  ok := fun ⟨⟨a, b, c⟩, p, q, r⟩ => v51 _ (fam_ctx []) p q r a b c
  en := enters_of Try.func51 (by kernel_rfl)
noncomputable def F36 : Fm where
  k := 36
  α := B3
  f := fun x => [(x.1.1, .int .i64 x.2.1), (x.1.2.1, .int .i64 x.2.2.1), (x.1.2.2, .int .i64 x.2.2.2)]
  g := fun x => [.fv (.bool (decide (x.2.2.1 ≤ x.2.1) && decide (x.2.1 ≤ x.2.2.2)))]
  inj := fun ⟨⟨a, b, c⟩, p, q, r⟩ ⟨⟨a', b', c'⟩, p', q', r'⟩ h => by simp at h; simp [h]
  ok := fun ⟨⟨a, b, c⟩, p, q, r⟩ => v36 _ (fam_ctx []) p q r a b c
  en := enters_of Try.func36 (by kernel_rfl)
noncomputable def F17 : Fm where
  k := 17
  α := (Bool × Bool × Sm) × (Bool × Bool × Sm)
  f := fun x => [(x.1.1, .sl x.1.2.1 1 (ints x.1.2.2.1)), (x.2.1, .sl x.2.2.1 1 (ints x.2.2.2.1))]
  g := fun x => [.fv (.bool (decide (x.1.2.2.1 = x.2.2.2.1)))]
  inj := fun ⟨⟨a, b, l, hl⟩, c, d, m, hm⟩ ⟨⟨a', b', l', hl'⟩, c', d', m', hm'⟩ h => by simp [ints_inj] at h; simp [h]
  ok := fun ⟨⟨a, b, l, hl⟩, c, d, m, hm⟩ => v17 _ (fam_ctx []) l m hl hm a c b d
  en := enters_of Try.func17 (by kernel_rfl)
noncomputable def F74 : Fm where
  k := 74
  α := (Int × Bool × Bool × Bool × Bool) × Int × { x : List Int × Nat // x.2 < x.1.length }
  f := fun x => [(x.1.2.1, fClaims x.1.1 x.1.2.2.1 x.2.2.1.1), (x.1.2.2.2.1, .int .i64 x.2.2.1.2), (x.1.2.2.2.2, .int .i64 x.2.1)]
  g := fun x => [.fv (.int .i64 (minI (x.2.2.1.1.getD x.2.2.1.2 0) x.2.1))]
  inj := fun ⟨⟨q, a, b, c, d⟩, n, ⟨l, i⟩, h1⟩ ⟨⟨q', a', b', c', d'⟩, n', ⟨l', i'⟩, h1'⟩ h => by
    simp only [fClaims, List.cons.injEq, Prod.mk.injEq, FV.agg.injEq, FV.int.injEq, FV.sl.injEq, true_and, and_true, ints_inj, Int.natCast_inj] at h
    simp [h]
  ok := fun ⟨⟨q, a, b, c, d⟩, n, ⟨l, i⟩, h1⟩ => by
    have := v74 _ (fam_ctx []) q l a b c d i n h1
    simpa [List.getD_eq_getElem?_getD, List.getElem?_eq_getElem h1] using this
  en := enters_of Try.func74 (by kernel_rfl)
theorem at48 {L : List Fm} (h : L.find? (fun G => G.k == 48) = some F48) : H48 (famCtx L) := fun ro c l hl => fam_at h (ro, c, ⟨l, hl⟩) rfl rfl
theorem at38 {L : List Fm} (h : L.find? (fun G => G.k == 38) = some F38) : H38 (famCtx L) := fun ro c l hl => fam_at h (ro, c, ⟨l, hl⟩) rfl rfl
theorem at51 {L : List Fm} (h : L.find? (fun G => G.k == 51) = some F51) : H51 (famCtx L) := fun r1 r2 r3 a b c => fam_at h ((r1, r2, r3), a, b, c) rfl rfl
theorem at36 {L : List Fm} (h : L.find? (fun G => G.k == 36) = some F36) : H36 (famCtx L) := fun r1 r2 r3 a b c => fam_at h ((r1, r2, r3), a, b, c) rfl rfl
theorem at17 {L : List Fm} (h : L.find? (fun G => G.k == 17) = some F17) : H17 (famCtx L) := fun l m hl hm ro r2 c c2 => fam_at h ((ro, c, ⟨l, hl⟩), (r2, c2, ⟨m, hm⟩)) rfl rfl
theorem at74 {L : List Fm} (h : L.find? (fun G => G.k == 74) = some F74) : H74 (famCtx L) := fun q l ro c r2 r3 n level hn => fam_at h ((q, ro, c, r2, r3), level, ⟨(l, n), hn⟩) rfl (by simp [F74, List.getD_eq_getElem?_getD, List.getElem?_eq_getElem hn])
noncomputable def K1 : List Fm := [F48, F38, F51, F36, F17, F74]
noncomputable def F53 : Fm where
  k := 53
  α := Bool × Int
  f := fun x => [(x.1, .int .i64 x.2)]
  g := fun x => [.fv (.bool (!(decide (0 ≤ x.2) && decide (x.2 ≤ 100000))))]
  inj := fun ⟨a, n⟩ ⟨a', n'⟩ h => by simp at h; simp [h]
  ok := fun ⟨a, n⟩ => v53 _ (fam_ctx K1) (at51 rfl) a n
  en := enters_of Try.func53 (by kernel_rfl)
abbrev S40 := { l : List Int // l.length < 2^40 }
noncomputable def F50 : Fm where
  k := 50
  α := (Int × Bool × Bool × Bool) × Int × S40
  f := fun x => [(x.1.2.1, fClaims x.1.1 x.1.2.2.1 x.2.2.1), (x.1.2.2.2, .int .i64 x.2.1)]
  g := fun x => [.us 1 (ints (atI x.2.2.1 x.2.1))]
  inj := fun ⟨⟨q, a, b, c⟩, n, l, h1⟩ ⟨⟨q', a', b', c'⟩, n', l', h1'⟩ h => by
    simp only [fClaims, List.cons.injEq, Prod.mk.injEq, FV.agg.injEq, FV.int.injEq, FV.sl.injEq, true_and, and_true, ints_inj] at h
    simp [h]
  ok := fun ⟨⟨q, a, b, c⟩, n, l, h1⟩ => v50 _ (fam_ctx []) q l h1 a b c n
  en := enters_of Try.func50 (by kernel_rfl)
noncomputable def F49 : Fm where
  k := 49
  α := (Int × Bool × Bool × Bool) × Int × S40
  f := fun x => [(x.1.2.1, fClaims x.1.1 x.1.2.2.1 x.2.2.1), (x.1.2.2.2, .int .i64 x.2.1)]
  g := fun x => [.us 1 (ints (atI x.2.2.1 x.2.1))]
  inj := fun ⟨⟨q, a, b, c⟩, n, l, h1⟩ ⟨⟨q', a', b', c'⟩, n', l', h1'⟩ h => by
    simp only [fClaims, List.cons.injEq, Prod.mk.injEq, FV.agg.injEq, FV.int.injEq, FV.sl.injEq, true_and, and_true, ints_inj] at h
    simp [h]
  ok := fun ⟨⟨q, a, b, c⟩, n, l, h1⟩ => v49 _ (fam_ctx K1) (at74 rfl) q l h1 a b c n
  en := enters_of Try.func49 (by kernel_rfl)
abbrev Cl := Int × Bool × Bool × Sm
theorem fc_inj {q q' : Int} {b b' a a' : Bool} {l l' : List Int} (h : [(a, fClaims q b l)] = [(a', fClaims q' b' l')]) : q = q' ∧ l = l' := by
  simp only [fClaims, List.cons.injEq, Prod.mk.injEq, FV.agg.injEq, FV.int.injEq, FV.sl.injEq, true_and, and_true, ints_inj] at h
  exact ⟨h.2.1, h.2.2.2⟩
noncomputable def F19 : Fm where
  k := 19
  α := Cl
  f := fun x => [(x.2.1, fClaims x.1 x.2.2.1 x.2.2.2.1)]
  g := fun x => [.fv (.int .i64 (if okClaims x.1 x.2.2.2.1 then 0 else 100))]
  inj := fun ⟨q, a, b, l, h1⟩ ⟨q', a', b', l', h1'⟩ h => by obtain ⟨e1, e2⟩ := fc_inj h; simp only at e1 e2; subst e1 e2; rfl
  ok := fun ⟨q, a, b, l, h1⟩ => v19 _ (fam_ctx K1) (at36 rfl) (at38 rfl) q l h1 a b
  en := enters_of Try.func19 (by kernel_rfl)
noncomputable def K2 : List Fm := K1 ++ [F53, F50, F49, F19]
theorem at50 {L : List Fm} (h : L.find? (fun G => G.k == 50) = some F50) : H50 (famCtx L) := fun q l ro c r3 n hl => fam_at h ((q, ro, c, r3), n, ⟨l, hl⟩) rfl rfl
theorem at49 {L : List Fm} (h : L.find? (fun G => G.k == 49) = some F49) : H49 (famCtx L) := fun q l ro c r3 n hl => fam_at h ((q, ro, c, r3), n, ⟨l, hl⟩) rfl rfl
theorem at19 {L : List Fm} (h : L.find? (fun G => G.k == 19) = some F19) : H19 (famCtx L) := fun q l ro c hl => fam_at h (q, ro, c, ⟨l, hl⟩) rfl rfl
noncomputable def F75 : Fm where
  k := 75
  α := (Bool × Bool × Bool) × Sm
  f := fun x => [(x.1.1, .sl x.1.2.1 1 (ints x.2.1)), (x.1.2.2, .fn (.func 53) [] [])]
  g := fun x => [.fv (.int .i64 (idx wrongRight x.2.1))]
  inj := fun ⟨⟨a, b, c⟩, l, h1⟩ ⟨⟨a', b', c'⟩, l', h1'⟩ h => by simp [ints_inj] at h; simp [h]
  ok := fun ⟨⟨a, b, c⟩, l, h1⟩ => v75 _ (fam_ctx K2) 53 wrongRight l h1 a c b [] fun x _ q => fam_at (F := F53) rfl (q, x) rfl rfl
  en := enters_of Try.func75 (by kernel_rfl)
noncomputable def K3 : List Fm := K2 ++ [F75]
noncomputable def F52 : Fm where
  k := 52
  α := (Bool × Bool × Bool) × Sm
  f := fun x => [(x.1.1, .sl x.1.2.1 1 (ints x.2.1)), (x.1.2.2, .fn (.func 53) [] [])]
  g := fun x => [.fv (.bool (x.2.1.any wrongRight))]
  inj := fun ⟨⟨a, b, c⟩, l, h1⟩ ⟨⟨a', b', c'⟩, l', h1'⟩ h => by simp [ints_inj] at h; simp [h]
  ok := fun ⟨⟨a, b, c⟩, l, h1⟩ => v52 _ (fam_ctx K3) 53 wrongRight [] (fun l ro rf c hl => fam_at (F := F75) rfl ((ro, c, rf), ⟨l, hl⟩) rfl rfl) l h1 a c b
  en := enters_of Try.func52 (by kernel_rfl)
noncomputable def K4 : List Fm := K3 ++ [F52]
noncomputable def F18 : Fm where
  k := 18
  α := Cl
  f := fun x => [(x.2.1, fClaims x.1 x.2.2.1 x.2.2.2.1)]
  g := fun x => [.fv (.int .i64 (if okClaims x.1 x.2.2.2.1 then 0 else 100))]
  inj := fun ⟨q, a, b, l, h1⟩ ⟨q', a', b', l', h1'⟩ h => by obtain ⟨e1, e2⟩ := fc_inj h; simp only at e1 e2; subst e1 e2; rfl
  ok := fun ⟨q, a, b, l, h1⟩ => v18 _ (fam_ctx K4) (at51 rfl) (at48 rfl) (fun l ro rf c hl => fam_at (F := F52) rfl ((ro, c, rf), ⟨l, hl⟩) rfl rfl) q l h1 a b
  en := enters_of Try.func18 (by kernel_rfl)
noncomputable def K5 : List Fm := K4 ++ [F18]
theorem at18 {L : List Fm} (h : L.find? (fun G => G.k == 18) = some F18) : H18 (famCtx L) := fun q l ro c hl => fam_at h (q, ro, c, ⟨l, hl⟩) rfl rfl
noncomputable def F15 : Fm where
  k := 15
  α := Cl
  f := fun x => [(x.2.1, fClaims x.1 x.2.2.1 x.2.2.2.1)]
  g := fun x => [.us 1 (ints (sharesA x.1 x.2.2.2.1)), .fv (.int .i64 (codeA x.1 x.2.2.2.1))]
  inj := fun ⟨q, a, b, l, h1⟩ ⟨q', a', b', l', h1'⟩ h => by obtain ⟨e1, e2⟩ := fc_inj h; simp only at e1 e2; subst e1 e2; rfl
  ok := fun ⟨q, a, b, l, h1⟩ => w15 _ (fam_ctx K5) (at18 rfl) (at48 rfl) (at49 rfl) q l h1 a b
  en := enters_of Try.func15 (by kernel_rfl)
noncomputable def F16 : Fm where
  k := 16
  α := Cl
  f := fun x => [(x.2.1, fClaims x.1 x.2.2.1 x.2.2.2.1)]
  g := fun x => [.us 1 (ints (sharesA x.1 x.2.2.2.1)), .fv (.int .i64 (codeA x.1 x.2.2.2.1))]
  inj := fun ⟨q, a, b, l, h1⟩ ⟨q', a', b', l', h1'⟩ h => by obtain ⟨e1, e2⟩ := fc_inj h; simp only at e1 e2; subst e1 e2; rfl
  ok := fun ⟨q, a, b, l, h1⟩ => w16 _ (fam_ctx K5) (at19 rfl) (at38 rfl) (at50 rfl) q l h1 a b
  en := enters_of Try.func16 (by kernel_rfl)
noncomputable def F20 : Fm where
  k := 20
  α := Unit
  f := fun _ => []
  g := fun _ => [.fv (.bool true)]
  inj := fun _ _ _ => rfl
  ok := fun _ => works_ok.1
  en := works_ok.2
noncomputable def K6 : List Fm := K5 ++ [F15, F16, F20]
theorem law3 (q : Int) (l : List Int) (hl : l.length < 2^62) (ro c : Bool) : Valid Try.prog 3 [(ro, fClaims q c l)] [.fv (.bool true)] :=
  v3 _ (fam_ctx K6) (fun q l ro c hl => fam_at (F := F15) rfl (q, ro, c, ⟨l, hl⟩) rfl rfl) (fun q l ro c hl => fam_at (F := F16) rfl (q, ro, c, ⟨l, hl⟩) rfl rfl) (at17 rfl) (at18 rfl) (at19 rfl) (fam_at (F := F20) rfl () rfl rfl) q l hl ro c
end Go.Proofs.Ytoafhoihigfllaa.E
