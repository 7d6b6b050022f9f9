/-
  The chapter of the treaty: what has been said of the functions of the swaps, gathered; the law of the swaps. Conditions: none.
-/
import Derived.Test.YtoafhoihigfllaaSy
import Derived.Test.YtoafhoihigfllaaTj
namespace Go.Proofs.Ytoafhoihigfllaa.E
open Go Go.RowKit
set_option linter.unusedVariables false
set_option linter.unusedSimpArgs false
abbrev S47 := { l : List Int // l.length * 8 ≤ 140737488355328 }
noncomputable def F81 : Fm where
  k := 81
  α := Bool × Bool × S47
  f := fun x => [(x.1, .sl x.2.1 1 (ints x.2.2.1))]
  g := fun x => [.us 1 (ints x.2.2.1)]
  inj := fun ⟨a, b, l, hl⟩ ⟨a', b', l', hl'⟩ h => by simp [ints_inj, Int.natCast_inj] at h; simp [h.2.2]
  ok := fun ⟨a, b, l, hl⟩ => clone_row l hl a b
  en := enters81
theorem fam_ctxs (L : List Fm) : CtxOk (pgs (famCtx L)) := by
  refine ⟨fun k xs res h => fam_ok h, fun k cells xs res h => (by cases h), fun k sz xs ys h => ctx0.s k sz xs ys h, fun k d σ args σ' vs h => (by cases h), fun k caps xs h => (by cases h), fun k caps xs i h => (by cases h)⟩
theorem fam_ctxf (L : List Fm) : CtxOk (pgf (famCtx L)) :=
  ⟨fun k xs res h => fam_ok h, fun k cells xs res h => (by cases h), fun k sz xs ys h => (by cases h), fun k d σ args σ' vs h => (by cases h), fun k caps xs h => (by cases h), fun k caps xs i h => (by cases h)⟩
theorem none82 (xs : List (Bool × FV)) : famCtx [F81] 82 xs = none := by simp [famCtx, F81]
noncomputable def F61 : Fm where
  k := 61
  α := (Bool × Bool × Bool) × S47 × Nat
  f := fun x => [(x.1.1, .sl x.1.2.2 1 (ints x.2.1.1)), (x.1.2.1, .int .i64 x.2.2)]
  g := fun x => [.fv (.bool (orderI x.2.1.1 x.2.2))]
  inj := fun ⟨⟨a, b, c⟩, ⟨l, hl⟩, n⟩ ⟨⟨a', b', c'⟩, ⟨l', hl'⟩, n'⟩ h => by simp [ints_inj, Int.natCast_inj] at h; simp [h]
  ok := fun ⟨⟨a, b, c⟩, ⟨l, hl⟩, n⟩ => v61 _ (fam_ctxs [F81]) (fun l ro c hl => fam_at (F := F81) rfl (ro, c, ⟨l, hl⟩) rfl rfl) none82 l hl n a b c
  en := enters_of Try.func61 (by kernel_rfl)
/-- rows of a size that can be -/
structure Rows47 (w : List (Bool × List Int)) : Prop where
  len : w.length < 2^62
  row : ∀ p ∈ w, p.2.length * 8 ≤ 140737488355328
section
variable (w : List (Bool × List Int)) (c : Bool) (hr : Rows47 w)
noncomputable def F60 : Fm where
  k := 60
  α := (Bool × Bool) × { p : Bool × List Int // p.2.length * 8 ≤ 140737488355328 }
  f := fun x => [(x.1.1, rowF x.2.1), (x.1.2, .pt [.sl c 1 (rowsF w)] 0)]
  g := fun x => [.fv (.bool (noOrder w.length x.2.1))]
  inj := fun ⟨⟨a, b⟩, ⟨p, l⟩, hl⟩ ⟨⟨a', b'⟩, ⟨p', l'⟩, hl'⟩ h => by simp [rowF, ints_inj] at h; simp [noOrder, h]
  ok := fun ⟨⟨a, b⟩, p, hl⟩ => v60 _ (fam_ctx [F61]) (fun l n hl ro r2 c => fam_at (F := F61) rfl ((ro, r2, c), ⟨l, hl⟩, n) rfl rfl) p hl w a b c
  en := enters_of Try.func60 (by kernel_rfl)
noncomputable def F80 : Fm where
  k := 80
  α := Bool × Bool × Bool
  f := fun x => [(x.1, .sl x.2.2 1 (rowsF w)), (x.2.1, .fn (.func 60) [] [.pt [.sl c 1 (rowsF w)] 0])]
  g := fun x => [.fv (.int .i64 (idxG (noOrder w.length) w))]
  inj := fun _ _ _ => rfl
  ok := fun ⟨a, b, d⟩ => v80 _ (fam_ctx [F60 w c]) 60 (noOrder w.length) w hr.len a b d _ (fun p hp q => fam_at (F := F60 w c) rfl ((q, b), ⟨p, hr.row p hp⟩) rfl rfl)
  en := enters_of Try.func80 (by kernel_rfl)
noncomputable def F59 : Fm where
  k := 59
  α := Bool × Bool × Bool
  f := fun x => [(x.1, .sl x.2.2 1 (rowsF w)), (x.2.1, .fn (.func 60) [] [.pt [.sl c 1 (rowsF w)] 0])]
  g := fun x => [.fv (.bool (w.any (noOrder w.length)))]
  inj := fun _ _ _ => rfl
  ok := fun ⟨a, b, d⟩ => v59 _ (fam_ctx [F80 w c hr]) 60 (noOrder w.length) _ w (fun ro rf c2 => fam_at (F := F80 w c hr) rfl (ro, rf, c2) rfl rfl) a b d
  en := enters_of Try.func59 (by kernel_rfl)
noncomputable def F24 : Fm where
  k := 24
  α := Bool
  f := fun x => [(x, .sl c 1 (rowsF w))]
  g := fun x => [.fv (.int .i64 (codeW w))]
  inj := fun _ _ _ => rfl
  ok := fun a => v24 _ (fam_ctx [F51, F59 w c hr]) (at51 rfl) w a c (fun ro rf c2 => fam_at (F := F59 w c hr) rfl (ro, rf, c2) rfl rfl)
  en := enters_of Try.func24 (by kernel_rfl)
noncomputable def F40 : Fm where
  k := 40
  α := (Bool × Bool × Bool) × Sm × Int
  f := fun x => [(x.1.1, .sl x.1.2.2 1 (ints x.2.1.1)), (x.1.2.1, .int .i64 x.2.2)]
  g := fun x => [.fv (.int .i64 (idx (· == x.2.2) x.2.1.1))]
  inj := fun ⟨⟨a, b, c⟩, ⟨l, hl⟩, n⟩ ⟨⟨a', b', c'⟩, ⟨l', hl'⟩, n'⟩ h => by simp [ints_inj, Int.natCast_inj] at h; simp [h]
  ok := fun ⟨⟨a, b, c⟩, ⟨l, hl⟩, n⟩ => v40 _ (fam_ctx []) l n hl a b c
  en := enters_of Try.func40 (by kernel_rfl)
noncomputable def F62 : Fm where
  k := 62
  α := (Bool × Bool × Bool) × Sm × { n : Nat // n < 2^62 }
  f := fun x => [(x.1.1, .sl x.1.2.2 1 (ints x.2.1.1)), (x.1.2.1, .int .i64 x.2.2.1)]
  g := fun x => [.fv (.bool (onceI x.2.1.1 x.2.2.1))]
  inj := fun ⟨⟨a, b, c⟩, ⟨l, hl⟩, n, hn⟩ ⟨⟨a', b', c'⟩, ⟨l', hl'⟩, n', hn'⟩ h => by simp [ints_inj, Int.natCast_inj] at h; simp [h]
  ok := fun ⟨⟨a, b, c⟩, ⟨l, hl⟩, n, hn⟩ => v62 _ (fam_ctx [F36, F40]) (at36 rfl) (fun l n hl ro r2 c => fam_at (F := F40) rfl ((ro, r2, c), ⟨l, hl⟩, n) rfl rfl) l hl n hn a b c
  en := enters_of Try.func62 (by kernel_rfl)
noncomputable def F25 : Fm where
  k := 25
  α := Bool
  f := fun x => [(x, .sl c 1 (rowsF w))]
  g := fun x => [.fv (.int .i64 (codeW w))]
  inj := fun _ _ _ => rfl
  ok := fun a => v25 _ (fam_ctx [F36, F62]) (at36 rfl) (fun l n hl hn ro r2 c => fam_at (F := F62) rfl ((ro, r2, c), ⟨l, hl⟩, ⟨n, hn⟩) rfl rfl) w hr.len (fun p hp => by have := hr.row p hp; omega) a c
  en := enters_of Try.func25 (by kernel_rfl)
theorem bools_inj {d e : List Bool} : bools d = bools e ↔ d = e := by
  constructor
  · intro h
    induction d generalizing e with
    | nil => cases e with
      | nil => rfl
      | cons y e => simp [bools] at h
    | cons x d ih => cases e with
      | nil => simp [bools] at h
      | cons y e =>
        simp only [bools, List.map_cons, List.cons.injEq, FV.bool.injEq] at h
        rw [h.1, ih h.2]
  · rintro rfl; rfl
noncomputable def F58 : Fm where
  k := 58
  α := (Bool × Bool × Bool × Bool) × { x : List Bool × Nat // Wish w ∧ x.1.length = w.length ∧ x.2 < w.length }
  f := fun x => [(x.1.1, .sl c 1 (rowsF w)), (x.1.2.1, .sl x.1.2.2.2 1 (bools x.2.1.1)), (x.1.2.2.1, .int .i64 x.2.1.2)]
  g := fun x => [.fv (.int .i64 (pt w x.2.1.1 x.2.1.2))]
  inj := fun ⟨⟨a, b, c1, c2⟩, ⟨d, k⟩, hx⟩ ⟨⟨a', b', c1', c2'⟩, ⟨d', k'⟩, hx'⟩ h => by simp [bools_inj, Int.natCast_inj] at h; simp [h]
  ok := fun ⟨⟨a, b, c1, c2⟩, ⟨d, k⟩, hx⟩ => v58 _ (fam_ctx []) w hx.1 d hx.2.1 k hx.2.2 a b c1 c c2
  en := enters_of Try.func58 (by kernel_rfl)
noncomputable def F22 : Fm where
  k := 22
  α := Bool
  f := fun x => [(x, .sl c 1 (rowsF w))]
  g := fun x => [.us 1 ((ringsW w).map ringF), .fv (.int .i64 (codeW w))]
  inj := fun _ _ _ => rfl
  ok := fun a => v22 _ (fam_ctx [F25 w c hr, F58 w c]) w c (fun ro => fam_at (F := F25 w c hr) rfl ro rfl rfl) (fun hw d k hd hk r1 r2 r3 c2 => fam_at (F := F58 w c) rfl ((r1, r2, r3, c2), ⟨(d, k), hw, hd, hk⟩) rfl rfl) a
  en := enters_of Try.func22 (by kernel_rfl)
noncomputable def F78 : Fm where
  k := 78
  α := (Bool × Bool) × Int × Option (Bool × Sm)
  f := fun x => [(x.1.1, match x.2.2 with | none => .sl true 0 [] | some y => .sl y.1 1 (ints y.2.1)), (x.1.2, .int .i64 x.2.1)]
  g := fun x => [.fv (.int .i64 (match x.2.2 with | none => -1 | some y => idx (· == x.2.1) y.2.1))]
  inj := fun ⟨⟨a, b⟩, n, o⟩ ⟨⟨a', b'⟩, n', o'⟩ h => by
    match o, o' with
    | none, none => rfl
    | none, some y => simp at h
    | some y, none => simp at h
    | some ⟨c, l, hl⟩, some ⟨c', l', hl'⟩ => simp [ints_inj, Int.natCast_inj] at h; simp [h]
  ok := fun ⟨⟨a, b⟩, n, o⟩ => by
    match o with
    | none => exact v78a _ (fam_ctx []) n a b
    | some ⟨c, l, hl⟩ => exact v78 _ (fam_ctx []) l n hl a b c
  en := enters_of Try.func78 (by kernel_rfl)
theorem at78 {L : List Fm} (h : L.find? (fun G => G.k == 78) = some F78) : H78 (famCtx L) := fun l n hl ro r2 c => fam_at h ((ro, r2), n, some (c, ⟨l, hl⟩)) rfl rfl
noncomputable def F79 : Fm where
  k := 79
  α := (Bool × Bool) × { l : List Int // 0 < l.length ∧ l.length < 2^62 }
  f := fun x => [(x.1.1, .sl x.1.2 1 (ints x.2.1))]
  g := fun x => [.fv (.int .i64 (minL x.2.1))]
  inj := fun ⟨⟨a, b⟩, l, hl⟩ ⟨⟨a', b'⟩, l', hl'⟩ h => by simp [ints_inj, Int.natCast_inj] at h; simp [h]
  ok := fun ⟨⟨a, b⟩, l, hl⟩ => v79 _ (fam_ctx []) l hl.1 hl.2 a b
  en := enters_of Try.func79 (by kernel_rfl)
end
section
variable (w : List (Bool × List Int)) (c : Bool) (hw : Wish w) (D : List Bool) (hD : D.length = 8)
noncomputable def F86 : Fm where
  k := 86
  α := (Bool × Bool) × { x : Nat // x < 8 }
  f := fun x => [(x.1.1, .int .i64 x.2.1), (x.1.2, .pt [.pt (cellsW c w D) 0] 0)]
  g := fun x => [.fv (.bool (!(D.getD x.2.1 false)))]
  inj := fun ⟨⟨a, b⟩, x, hx⟩ ⟨⟨a', b'⟩, x', hx'⟩ h => by simp [Int.natCast_inj] at h; simp [h]
  ok := fun ⟨⟨a, b⟩, x, hx⟩ => v86 _ (fam_ctx []) w D hD x hx a b c
  en := enters_of Try.func86 (by kernel_rfl)
noncomputable def F75w : Fm where
  k := 75
  α := (Bool × Bool × Bool) × { l : List Int // l.length ≤ 8 ∧ ∀ x ∈ l, 0 ≤ x ∧ x < 8 }
  f := fun x => [(x.1.1, .sl x.1.2.2 1 (ints x.2.1)), (x.1.2.1, .fn (.func 86) [] [.pt [.pt (cellsW c w D) 0] 0])]
  g := fun x => [.fv (.int .i64 (idx (freeIn D) x.2.1))]
  inj := fun ⟨⟨a, b, c1⟩, l, hl⟩ ⟨⟨a', b', c1'⟩, l', hl'⟩ h => by simp [ints_inj, Int.natCast_inj] at h; simp [h]
  ok := fun ⟨⟨a, b, c1⟩, l, hl⟩ => v75 _ (fam_ctx [F86 w c D hD]) 86 (freeIn D) l (by have := hl.1; omega) a b c1 _ (fun x hx q => by
    have h1 := hl.2 x hx
    exact fam_at (F := F86 w c D hD) rfl ((q, b), ⟨x.toNat, by omega⟩) (by simp only [F86, List.map_cons, List.map_nil, Int.toNat_of_nonneg h1.1]) rfl)
  en := enters_of Try.func75 (by kernel_rfl)
noncomputable def F76 (a : Nat) (ha : a < w.length) (hda : D.getD a false = false) : Fm where
  k := 76
  α := (Bool × Bool) × { k : Nat // k < w.length }
  f := fun x => [(x.1.1, .pt (cellsW c w D) 0), (x.1.2, .int .i64 x.2.1)]
  g := fun x => [.fv (.int .i64 (pt w D x.2.1))]
  inj := fun ⟨⟨a, b⟩, x, hx⟩ ⟨⟨a', b'⟩, x', hx'⟩ h => by simp [Int.natCast_inj] at h; simp [h]
  ok := fun ⟨⟨r1, r2⟩, k, hk⟩ => v76 _ (fam_ctx [F75w w c D hD]) w hw D hD k hk a ha hda r1 r2 c (fun l ro rf c2 h1 h2 => fam_at (F := F75w w c D hD) rfl ((ro, rf, c2), ⟨l, h1, h2⟩) rfl rfl)
  en := enters_of Try.func76 (by kernel_rfl)
theorem nn_inj {r s : List Nat} : nn r = nn s ↔ r = s := by
  constructor
  · intro h
    induction r generalizing s with
    | nil => cases s with
      | nil => rfl
      | cons y s => simp [nn] at h
    | cons x r ih => cases s with
      | nil => simp [nn] at h
      | cons y s =>
        simp only [nn, List.map_cons, List.cons.injEq, Int.natCast_inj] at h
        rw [h.1, ih h.2]
  · rintro rfl; rfl
def Dom77 (m : Nat) (way : List Nat) (x : Nat) : Prop := x < w.length ∧ D.getD x false = false ∧ way.length + m ≤ 9 ∧ Ends (pt w D) m way x
noncomputable def F77 (m : Nat) (ih : ∀ way x, Dom77 w D m way x → ∀ r2 r3 r4 : Bool, Valid Try.prog 77 [(false, .sl false 1 (ints (nn way))), (r2, .int .i64 x), (r3, .rb 77 [] [ptP c w D]), (r4, ptP c w D)] [.fv (.sl false 1 (ints (nn (rnd (pt w D) m way x))))]) : Fm where
  k := 77
  α := (Bool × Bool × Bool) × { y : List Nat × Nat // Dom77 w D m y.1 y.2 }
  f := fun x => [(false, .sl false 1 (ints (nn x.2.1.1))), (x.1.1, .int .i64 x.2.1.2), (x.1.2.1, .rb 77 [] [ptP c w D]), (x.1.2.2, ptP c w D)]
  g := fun x => [.fv (.sl false 1 (ints (nn (rnd (pt w D) m x.2.1.1 x.2.1.2))))]
  inj := fun ⟨⟨a, b, d⟩, ⟨l, x⟩, hx⟩ ⟨⟨a', b', d'⟩, ⟨l', x'⟩, hx'⟩ h => by simp [ints_inj, nn_inj, Int.natCast_inj] at h; simp [h]
  ok := fun ⟨⟨a, b, d⟩, ⟨l, x⟩, hx⟩ => ih l x hx a b d
  en := enters_of Try.func77 (by kernel_rfl)
include hw hD in
theorem val77 : ∀ m way x, Dom77 w D m way x → ∀ r2 r3 r4 : Bool, Valid Try.prog 77 [(false, .sl false 1 (ints (nn way))), (r2, .int .i64 x), (r3, .rb 77 [] [ptP c w D]), (r4, ptP c w D)] [.fv (.sl false 1 (ints (nn (rnd (pt w D) m way x))))]
  | 0, way, x, h, _, _, _ => h.2.2.2.elim
  | m+1, way, x, h, r2, r3, r4 => by
    have ih := val77 m
    exact v77 _ (fam_ctxf [F76 w c hw D hD x h.1 h.2.1, F78, F77 w c D m ih]) w hw c D hD m (fun k hk r1 r2 => fam_at (F := F76 w c hw D hD x h.1 h.2.1) rfl ((r1, r2), ⟨k, hk⟩) rfl rfl)
      (fun way x h1 h2 h3 h4 r2 r3 r4 => fam_at (F := F77 w c D m ih) rfl ((r2, r3, r4), ⟨(way, x), h1, h2, h3, h4⟩) rfl rfl) (at78 rfl) way x h.1 h.2.1 h.2.2.1 h.2.2.2 false (.inl rfl) r2 r3 r4
include hw hD in
theorem val77a (x : Nat) (hx : x < w.length) (hd : D.getD x false = false) (r2 r3 r4 : Bool) : Valid Try.prog 77 [(false, .sl true 0 []), (r2, .int .i64 x), (r3, .rb 77 [] [ptP c w D]), (r4, ptP c w D)] [.fv (.sl false 1 (ints (nn (rnd (pt w D) 9 [] x))))] :=
  v77a _ (fam_ctxf [F76 w c hw D hD x hx hd, F78, F77 w c D 8 (val77 w c hw D hD 8)]) w hw c D hD (fun k hk r1 r2 => fam_at (F := F76 w c hw D hD x hx hd) rfl ((r1, r2), ⟨k, hk⟩) rfl rfl)
    (fun way x h1 h2 h3 h4 r2 r3 r4 => fam_at (F := F77 w c D 8 (val77 w c hw D hD 8)) rfl ((r2, r3, r4), ⟨(way, x), h1, h2, h3, h4⟩) rfl rfl) (fun ro r2 n => fam_at (F := F78) rfl ((ro, r2), n, none) rfl rfl) x hx hd r2 r3 r4
end
end Go.Proofs.Ytoafhoihigfllaa.E
namespace Go.Proofs.Ytoafhoihigfllaa.E
open Go Go.RowKit
set_option linter.unusedVariables false
set_option linter.unusedSimpArgs false
section
variable (w : List (Bool × List Int)) (c : Bool) (hr : Rows47 w)
theorem cellsW_inj {D E : List Bool} : cellsW c w D = cellsW c w E ↔ D = E := by simp [cellsW, bools_inj]
noncomputable def F77a (hw : Wish w) : Fm where
  k := 77
  α := (Bool × Bool × Bool) × { y : List Bool × Nat // y.1.length = 8 ∧ y.2 < w.length ∧ y.1.getD y.2 false = false }
  f := fun x => [(false, .sl true 0 []), (x.1.1, .int .i64 x.2.1.2), (x.1.2.1, .rb 77 [] [ptP c w x.2.1.1]), (x.1.2.2, ptP c w x.2.1.1)]
  g := fun x => [.fv (.sl false 1 (ints (nn (rnd (pt w x.2.1.1) 9 [] x.2.1.2))))]
  inj := fun ⟨⟨a, b, d⟩, ⟨l, x⟩, hx⟩ ⟨⟨a', b', d'⟩, ⟨l', x'⟩, hx'⟩ h => by simp [ptP, cellsW_inj, Int.natCast_inj] at h; simp [h]
  ok := fun ⟨⟨a, b, d⟩, ⟨D, k⟩, hx⟩ => val77a w c hw D hx.1 k hx.2.1 hx.2.2 a b d
  en := enters_of Try.func77 (by kernel_rfl)
theorem val57 (hw : Wish w) (r0 : Bool) : ValidB Try.prog 57 (cells0 r0 c w) [] [.us 1 ((ringsOf w).map ringF)] :=
  v57 _ (fam_ctxf [F77a w c hw, F78, F79]) w hw r0 c (fun D k h1 h2 h3 r2 r3 r4 => fam_at (F := F77a w c hw) rfl ((r2, r3, r4), ⟨(D, k), h1, h2, h3⟩) rfl rfl) (at78 rfl) (fun l h1 h2 ro c => fam_at (F := F79) rfl ((ro, c), ⟨l, h1, h2⟩) rfl rfl)
open Classical in
noncomputable def B57 : FuncId → List (Bool × FV) → List (Bool × FV) → Option (List TV) := fun k cells xs => if k = 57 ∧ okWishes w = true ∧ (∃ r0, cells = cells0 r0 c w) ∧ xs = [] then some [.us 1 ((ringsOf w).map ringF)] else none
theorem fam_ctxb (L : List Fm) : CtxOk (pgb (famCtx L) (B57 w c)) := by
  refine ⟨fun k xs res h => fam_ok h, fun k cells xs res h => ?_, fun k sz xs ys h => (by cases h), fun k d σ args σ' vs h => (by cases h), fun k caps xs h => (by cases h), fun k caps xs i h => (by cases h)⟩
  have h' : B57 w c k cells xs = some res := h
  unfold B57 at h'
  split at h'
  · rename_i hc
    obtain ⟨rfl, hok, ⟨r0, rfl⟩, rfl⟩ := hc
    simp only [Option.some.injEq] at h'; subst h'
    exact ⟨val57 w c (okWishes_wish hok) r0, enters_of Try.func57 (by kernel_rfl)⟩
  · cases h'
noncomputable def F21 : Fm where
  k := 21
  α := Bool
  f := fun x => [(x, .sl c 1 (rowsF w))]
  g := fun x => [.us 1 ((ringsW w).map ringF), .fv (.int .i64 (codeW w))]
  inj := fun _ _ _ => rfl
  ok := fun a => v21 _ _ (fam_ctxb w c [F24 w c hr]) w c (fun ro => fam_at (F := F24 w c hr) rfl ro rfl rfl) (fun xs => by simp [famCtx, F24]) (fun hok r0 => by unfold B57; rw [if_pos ⟨rfl, hok, ⟨r0, rfl⟩, rfl⟩]) a
  en := enters_of Try.func21 (by kernel_rfl)
noncomputable def F26 : Fm where
  k := 26
  α := Bool
  f := fun x => [(x, .sl c 1 (rowsF w))]
  g := fun x => [.us 1 (ints (swapW w)), .fv (.int .i64 (codeW w))]
  inj := fun _ _ _ => rfl
  ok := fun a => v26 _ (fam_ctx [F21 w c hr]) w c (fun ro => fam_at (F := F21 w c hr) rfl ro rfl rfl) a
  en := enters_of Try.func26 (by kernel_rfl)
noncomputable def F37n : Fm where
  k := 37
  α := (Bool × Bool) × Nat × { d : Nat // 0 < d }
  f := fun x => [(x.1.1, .int .i64 x.2.1), (x.1.2, .int .i64 x.2.2.1)]
  g := fun x => [.fv (.int .i64 ((x.2.1 % x.2.2.1 : Nat) : Int))]
  inj := fun ⟨⟨a, b⟩, n, d, h1⟩ ⟨⟨a', b'⟩, n', d', h1'⟩ h => by simp [Int.natCast_inj] at h; simp [h]
  ok := fun ⟨⟨a, b⟩, n, d, h1⟩ => by
    have := v37 _ (fam_ctx []) (n : Int) (d : Int) (by omega) a b
    rw [modI_nat] at this
    exact this
  en := enters_of Try.func37 (by kernel_rfl)
noncomputable def F27 : Fm where
  k := 27
  α := Bool
  f := fun x => [(x, .sl c 1 (rowsF w))]
  g := fun x => [.us 1 (ints (swapW w)), .fv (.int .i64 (codeW w))]
  inj := fun _ _ _ => rfl
  ok := fun a => v27 _ (fam_ctx [F22 w c hr, F37n]) w c (fun ro => fam_at (F := F22 w c hr) rfl ro rfl rfl) (fun n d hd r1 r2 => fam_at (F := F37n) rfl ((r1, r2), n, ⟨d, hd⟩) rfl rfl) a
  en := enters_of Try.func27 (by kernel_rfl)
theorem ringsW_small : (∀ r ∈ ringsW w, r.length ≤ 8) ∧ (ringsW w).length ≤ 8 := by
  unfold ringsW
  split
  · rename_i h
    have := rings_small (okWishes_wish h)
    exact ⟨fun r hr => (this.1 r hr).2.1, this.2⟩
  · simp
theorem ringF_rows : (ringsW w).map ringF = rowsF ((ringsW w).map fun r => (false, nn r)) := by simp [rowsF, rowF, ringF, Function.comp_def]
noncomputable def F23 : Fm where
  k := 23
  α := Bool × Bool × Bool × Bool
  f := fun x => [(x.1, .sl x.2.2.1 1 ((ringsW w).map ringF)), (x.2.1, .sl x.2.2.2 1 ((ringsW w).map ringF))]
  g := fun x => [.fv (.bool true)]
  inj := fun _ _ _ => rfl
  ok := fun ⟨a, b, c1, c2⟩ => by
    have hs := ringsW_small w
    have hrow : ∀ p ∈ (ringsW w).map (fun r => (false, nn r)), p.2.length < 2^62 := fun p hp => by
      obtain ⟨r, hr, rfl⟩ := List.mem_map.mp hp
      have := hs.1 r hr
      simp only [nn_length]; omega
    have hlen : ((ringsW w).map (fun r => (false, nn r))).length < 2^62 := by rw [List.length_map]; have := hs.2; omega
    have := v23 _ (fam_ctx [F17]) (at17 rfl) _ _ hlen hlen hrow hrow a b c1 c2
    simp only [decide_true, ← ringF_rows] at this
    exact this
  en := enters_of Try.func23 (by kernel_rfl)
theorem swapW_len : (swapW w).length < 2^62 := by
  unfold swapW
  split
  · rename_i h
    have := (okWishes_wish h).few
    simp only [swapOf, swap_fold_length, List.length_replicate]; omega
  · simp
noncomputable def K4w : List Fm := [F21 w c hr, F22 w c hr, F24 w c hr, F25 w c hr, F26 w c hr, F27 w c hr, F23 w, F17, F20]
include hr in
theorem law4 (ro : Bool) : Valid Try.prog 4 [(ro, .sl c 1 (rowsF w))] [.fv (.bool true)] :=
  v4 _ (fam_ctx (K4w w c hr)) w c (fun ro => fam_at (F := F21 w c hr) rfl ro rfl rfl) (fun ro => fam_at (F := F22 w c hr) rfl ro rfl rfl) (fun ro => fam_at (F := F24 w c hr) rfl ro rfl rfl) (fun ro => fam_at (F := F25 w c hr) rfl ro rfl rfl)
    (fun ro => fam_at (F := F26 w c hr) rfl ro rfl rfl) (fun ro => fam_at (F := F27 w c hr) rfl ro rfl rfl) (fun r1 r2 c1 c2 => fam_at (F := F23 w) rfl (r1, r2, c1, c2) rfl rfl)
    (fun r1 r2 c1 c2 => fam_at (F := F17) rfl ((r1, c1, ⟨swapW w, swapW_len w⟩), (r2, c2, ⟨swapW w, swapW_len w⟩)) rfl (by simp [F17])) (fam_at (F := F20) rfl () rfl rfl) ro
end
end Go.Proofs.Ytoafhoihigfllaa.E
