/-
  The chapter of the treaty: who does better: what has been said of the functions, gathered; the law, put together. Conditions: none.
-/
import Derived.Test.YtoafhoihigfllaaBx
import Derived.Test.YtoafhoihigfllaaSv
namespace Go.Proofs.Ytoafhoihigfllaa.E
open Go Go.RowKit
set_option linter.unusedVariables false
set_option linter.unusedSimpArgs false
noncomputable def F42 : Fm where
  k := 42
  α := (Bool × Bool) × { y : Nat × Nat // y.1 < 2^62 ∧ y.2 < 8 }
  f := fun x => [(x.1.1, .int .i64 x.2.1.1), (x.1.2, .int .i64 x.2.1.2)]
  g := fun x => [.fv (.bool (inS x.2.1.1 x.2.1.2))]
  inj := fun ⟨⟨a, b⟩, ⟨s, g⟩, h1⟩ ⟨⟨a', b'⟩, ⟨s', g'⟩, h1'⟩ h => by simp [Int.natCast_inj] at h; simp [h]
  ok := fun ⟨⟨a, b⟩, ⟨s, g⟩, h1⟩ => v42 _ (fam_ctx []) s g h1.1 h1.2 a b
  en := enters_of Try.func42 (by kernel_rfl)
theorem at42 {L : List Fm} (h : L.find? (fun G => G.k == 42) = some F42) : H42 (famCtx L) := fun s g h1 h2 r1 r2 => fam_at h ((r1, r2), ⟨(s, g), h1, h2⟩) rfl rfl
theorem at40 {L : List Fm} (h : L.find? (fun G => G.k == 40) = some F40) : H40 (famCtx L) := fun l n hl ro r2 c => fam_at h ((ro, r2, c), ⟨l, hl⟩, n) rfl rfl
noncomputable def F65 : Fm where
  k := 65
  α := (Bool × Bool) × { y : Nat × Nat // y.1 < 2^62 ∧ y.2 ≤ 8 }
  f := fun x => [(x.1.1, .int .i64 x.2.1.1), (x.1.2, .int .i64 x.2.1.2)]
  g := fun x => [.us 1 (ints (nn (memFrom x.2.1.1 x.2.1.2 0)))]
  inj := fun ⟨⟨a, b⟩, ⟨s, g⟩, h1⟩ ⟨⟨a', b'⟩, ⟨s', g'⟩, h1'⟩ h => by simp [Int.natCast_inj] at h; simp [h]
  ok := fun ⟨⟨a, b⟩, ⟨s, n⟩, h1⟩ => v65 _ (fam_ctx [F42]) (at42 rfl) s h1.1 n h1.2 a b
  en := enters_of Try.func65 (by kernel_rfl)
section
variable (c : Bool) (w : List (Bool × List Int)) (hw : Wish w) (s : Nat) (hs : s < 2^62) (cx : Bool) (x : List Int) (hx : IsOrd x w.length)
def V63 (k : Nat) : Prop := ∀ (D : List Bool) (b : Bool), D.length = 8 → ∀ (q0 q1 q2 q3 q4 q5 q6 : Bool), Valid Try.prog 63 [(q0, .int .i64 k), (q1, .agg (bools D)), (q2, .bool b), (q3, P63a c w), (q4, P63b s), (q5, R63 c w s cx x), (q6, P63c cx x)] [.fv (.bool (betterA w x s (memFrom s w.length k) D b))]
noncomputable def F63 (k : Nat) (ih : V63 c w s cx x k) : Fm where
  k := 63
  α := (Bool × Bool × Bool × Bool × Bool × Bool × Bool) × { D : List Bool // D.length = 8 } × Bool
  f := fun y => [(y.1.1, .int .i64 k), (y.1.2.1, .agg (bools y.2.1.1)), (y.1.2.2.1, .bool y.2.2), (y.1.2.2.2.1, P63a c w), (y.1.2.2.2.2.1, P63b s), (y.1.2.2.2.2.2.1, R63 c w s cx x), (y.1.2.2.2.2.2.2, P63c cx x)]
  g := fun y => [.fv (.bool (betterA w x s (memFrom s w.length k) y.2.1.1 y.2.2))]
  inj := fun ⟨⟨a1, a2, a3, a4, a5, a6, a7⟩, ⟨D, hD⟩, b⟩ ⟨⟨a1', a2', a3', a4', a5', a6', a7'⟩, ⟨D', hD'⟩, b'⟩ h => by simp [bools_inj] at h; simp [h]
  ok := fun ⟨⟨a1, a2, a3, a4, a5, a6, a7⟩, ⟨D, hD⟩, b⟩ => ih D b hD a1 a2 a3 a4 a5 a6 a7
  en := enters_of Try.func63 (by kernel_rfl)
theorem at63 {L : List Fm} {k : Nat} {ih : V63 c w s cx x k} (h : L.find? (fun G => G.k == 63) = some (F63 c w s cx x k ih)) : H63 (famCtx L) c w s cx x k := fun D b hD q0 q1 q2 q3 q4 q5 q6 => fam_at h ((q0, q1, q2, q3, q4, q5, q6), ⟨D, hD⟩, b) rfl rfl
include hw hs hx in
theorem val63 : ∀ m k, k + m = w.length → V63 c w s cx x k
  | 0, k, h => fun D b hD q0 q1 q2 q3 q4 q5 q6 => v63 _ (fam_ctx []) c w hw s hs cx x hx k (by omega) (fun h2 => by omega) D b hD q0 q1 q2 q3 q4 q5 q6
  | m+1, k, h => fun D b hD q0 q1 q2 q3 q4 q5 q6 => by
    have ih := val63 m (k + 1) (by omega)
    exact v63 _ (fam_ctx [F63 c w s cx x (k + 1) ih]) c w hw s hs cx x hx k (by omega) (fun _ => at63 c w s cx x (ih := ih) rfl) D b hD q0 q1 q2 q3 q4 q5 q6
def V64 (i : Nat) : Prop := ∀ (t : Nat) (b : Bool), t < 256 → ∀ (q0 q1 q2 q3 q4 q5 cl : Bool), Valid Try.prog 64 [(q0, .sl c 1 (rowsF w)), (q1, .sl cx 1 (ints x)), (q2, .sl cl 1 (ints (nn (memFrom s w.length 0)))), (q3, .int .i64 i), (q4, .int .i64 t), (q5, .bool b)] [.fv (.bool (betterA w x s ((memFrom s w.length 0).drop i) (dOf t) b))]
noncomputable def F64 (i : Nat) (ih : V64 c w s cx x i) : Fm where
  k := 64
  α := (Bool × Bool × Bool × Bool × Bool × Bool × Bool) × { t : Nat // t < 256 } × Bool
  f := fun y => [(y.1.1, .sl c 1 (rowsF w)), (y.1.2.1, .sl cx 1 (ints x)), (y.1.2.2.1, .sl y.1.2.2.2.2.2.2 1 (ints (nn (memFrom s w.length 0)))), (y.1.2.2.2.1, .int .i64 i), (y.1.2.2.2.2.1, .int .i64 y.2.1.1), (y.1.2.2.2.2.2.1, .bool y.2.2)]
  g := fun y => [.fv (.bool (betterA w x s ((memFrom s w.length 0).drop i) (dOf y.2.1.1) y.2.2))]
  inj := fun ⟨⟨a1, a2, a3, a4, a5, a6, a7⟩, ⟨t, ht⟩, b⟩ ⟨⟨a1', a2', a3', a4', a5', a6', a7'⟩, ⟨t', ht'⟩, b'⟩ h => by simp [Int.natCast_inj] at h; simp [h]
  ok := fun ⟨⟨a1, a2, a3, a4, a5, a6, a7⟩, ⟨t, ht⟩, b⟩ => ih t b ht a1 a2 a3 a4 a5 a6 a7
  en := enters_of Try.func64 (by kernel_rfl)
theorem at64 {L : List Fm} {i : Nat} {ih : V64 c w s cx x i} (h : L.find? (fun G => G.k == 64) = some (F64 c w s cx x i ih)) : H64 (famCtx L) c w s cx x i := fun t b ht q0 q1 q2 q3 q4 q5 cl => fam_at h ((q0, q1, q2, q3, q4, q5, cl), ⟨t, ht⟩, b) rfl rfl
include hw hs hx in
theorem val64 : ∀ m i, i + m = (memFrom s w.length 0).length → V64 c w s cx x i
  | 0, i, h => fun t b ht q0 q1 q2 q3 q4 q5 cl => v64 _ (fam_ctx [F40, F42]) c w hw s hs cx x hx (at40 rfl) (at42 rfl) i (by omega) (fun h2 => by omega) t b ht q0 q1 q2 q3 q4 q5 cl
  | m+1, i, h => fun t b ht q0 q1 q2 q3 q4 q5 cl => by
    have ih := val64 m (i + 1) (by omega)
    exact v64 _ (fam_ctx [F40, F42, F64 c w s cx x (i + 1) ih]) c w hw s hs cx x hx (at40 rfl) (at42 rfl) i (by omega) (fun _ => at64 c w s cx x (ih := ih) rfl) t b ht q0 q1 q2 q3 q4 q5 cl
end
theorem ask_facts {w : List (Bool × List Int)} {x : List Int} {set : Int} (hw : Wish w) (h : okAsk w x set = true) : IsOrd x w.length ∧ set.toNat < 2^62 := by
  have h8 := hw.few
  obtain ⟨hp1, hp2, hp3⟩ := pow_small h8.2
  simp only [okAsk, Bool.and_eq_true, decide_eq_true_eq] at h
  exact ⟨once_iff.mp h.1, by rw [hp1] at h; omega⟩
section
variable (w : List (Bool × List Int)) (c : Bool) (hr : Rows47 w) (cx : Bool) (x : List Int) (hx : x.length * 8 ≤ 140737488355328) (set : Int)
include hr hx in
theorem val28 (r0 r1 r2 : Bool) : Valid Try.prog 28 [(r0, .sl c 1 (rowsF w)), (r1, .sl cx 1 (ints x)), (r2, .int .i64 set)] [.fv (.bool (valB w x set)), .fv (.int .i64 (codeB w x set))] := by
  by_cases h : okWishes w = true ∧ okAsk w x set = true
  · have hw := okWishes_wish h.1
    have hf := ask_facts hw h.2
    have ih := val63 c w hw set.toNat hf.2 cx x hf.1 w.length 0 (by omega)
    exact v28 _ (fam_ctx [F24 w c hr, F51, F61, F63 c w set.toNat cx x 0 ih]) c w cx x set (fun ro => fam_at (F := F24 w c hr) rfl ro rfl rfl) (at51 rfl) (fun r1 r2 c => fam_at (F := F61) rfl ((r1, r2, c), ⟨x, hx⟩, w.length) rfl rfl) (fun _ _ => at63 c w set.toNat cx x (ih := ih) rfl) r0 r1 r2
  · exact v28 _ (fam_ctx [F24 w c hr, F51, F61]) c w cx x set (fun ro => fam_at (F := F24 w c hr) rfl ro rfl rfl) (at51 rfl) (fun r1 r2 c => fam_at (F := F61) rfl ((r1, r2, c), ⟨x, hx⟩, w.length) rfl rfl) (fun h1 h2 => absurd ⟨h1, h2⟩ h) r0 r1 r2
theorem at62 {L : List Fm} (h : L.find? (fun G => G.k == 62) = some F62) : H62 (famCtx L) := fun l n hl hn ro r2 c => fam_at h ((ro, r2, c), ⟨l, hl⟩, ⟨n, hn⟩) rfl rfl
theorem at65 {L : List Fm} (h : L.find? (fun G => G.k == 65) = some F65) : H65 (famCtx L) := fun s n h1 h2 r1 r2 => fam_at h ((r1, r2), ⟨(s, n), h1, h2⟩) rfl rfl
include hr hx in
theorem val29 (r0 r1 r2 : Bool) : Valid Try.prog 29 [(r0, .sl c 1 (rowsF w)), (r1, .sl cx 1 (ints x)), (r2, .int .i64 set)] [.fv (.bool (valB w x set)), .fv (.int .i64 (codeB w x set))] := by
  by_cases h : okWishes w = true ∧ okAsk w x set = true
  · have hw := okWishes_wish h.1
    have hf := ask_facts hw h.2
    have ih := val64 c w hw set.toNat hf.2 cx x hf.1 (memFrom set.toNat w.length 0).length 0 (by omega)
    exact v29 _ (fam_ctx [F25 w c hr, F36, F62, F65, F64 c w set.toNat cx x 0 ih]) c w cx x (by omega) set (fun ro => fam_at (F := F25 w c hr) rfl ro rfl rfl) (at36 rfl) (at62 rfl) (at65 rfl) (fun _ _ => at64 c w set.toNat cx x (ih := ih) rfl) r0 r1 r2
  · exact v29 _ (fam_ctx [F25 w c hr, F36, F62, F65]) c w cx x (by omega) set (fun ro => fam_at (F := F25 w c hr) rfl ro rfl rfl) (at36 rfl) (at62 rfl) (at65 rfl) (fun h1 h2 => absurd ⟨h1, h2⟩ h) r0 r1 r2
noncomputable def F28 : Fm where
  k := 28
  α := Bool × Bool × Bool
  f := fun y => [(y.1, .sl c 1 (rowsF w)), (y.2.1, .sl cx 1 (ints x)), (y.2.2, .int .i64 set)]
  g := fun y => [.fv (.bool (valB w x set)), .fv (.int .i64 (codeB w x set))]
  inj := fun _ _ _ => rfl
  ok := fun ⟨a, b, d⟩ => val28 w c hr cx x hx set a b d
  en := enters_of Try.func28 (by kernel_rfl)
noncomputable def F29 : Fm where
  k := 29
  α := Bool × Bool × Bool
  f := fun y => [(y.1, .sl c 1 (rowsF w)), (y.2.1, .sl cx 1 (ints x)), (y.2.2, .int .i64 set)]
  g := fun y => [.fv (.bool (valB w x set)), .fv (.int .i64 (codeB w x set))]
  inj := fun _ _ _ => rfl
  ok := fun ⟨a, b, d⟩ => val29 w c hr cx x hx set a b d
  en := enters_of Try.func29 (by kernel_rfl)
include hr hx in
theorem law5 (r0 r1 r2 : Bool) : Valid Try.prog 5 [(r0, .sl c 1 (rowsF w)), (r1, .sl cx 1 (ints x)), (r2, .int .i64 set)] [.fv (.bool true)] :=
  v5 _ (fam_ctx [F28 w c hr cx x hx set, F29 w c hr cx x hx set, F20]) c w cx x set (fun a b d => fam_at (F := F28 w c hr cx x hx set) rfl (a, b, d) rfl rfl) (fun a b d => fam_at (F := F29 w c hr cx x hx set) rfl (a, b, d) rfl rfl) (fam_at (F := F20) rfl () rfl rfl) r0 r1 r2
end
end Go.Proofs.Ytoafhoihigfllaa.E
