/-
  The chapter of the treaty, the plain law of the shares: the search by halves and that step by step find the same level. Conditions: none.
-/
import Derived.Test.YtoafhoihigfllaaTh
namespace Go.Proofs.Ytoafhoihigfllaa.E
open Go Go.RowKit
set_option linter.unusedVariables false
def psum (l : List Int) (n : Int) : Int := (l.map (minI · n)).sum
theorem minI_le {x n : Int} : minI x n ≤ n ∨ minI x n ≤ x := by unfold minI; split <;> omega
theorem minI_mono {x n m : Int} (h : n ≤ m) : minI x n ≤ minI x m := by unfold minI; split <;> split <;> omega
theorem psum_mono {n m : Int} (h : n ≤ m) : ∀ (l : List Int), psum l n ≤ psum l m
  | [] => by simp [psum]
  | x :: r => by
    have ih := psum_mono h r
    have := minI_mono (x := x) h
    simp only [psum, List.map_cons, List.sum_cons] at ih ⊢
    omega
theorem psum_zero : ∀ {l : List Int}, (∀ x ∈ l, 0 ≤ x) → psum l 0 = 0
  | [], _ => by simp [psum]
  | x :: r, h => by
    have ih := psum_zero (l := r) fun y hy => h y (List.mem_cons_of_mem _ hy)
    have hx := h x List.mem_cons_self
    simp only [psum, List.map_cons, List.sum_cons] at ih ⊢
    have : minI x 0 = 0 := by unfold minI; split <;> omega
    omega
theorem foldl_sum : ∀ (m : List Int) (a : Int), 0 ≤ a → (∀ x ∈ m, 0 ≤ x ∧ x ≤ 100000) → a + m.length * 100000 ≤ 4611686018427387904 → m.foldl (fun n x => IntKind.i64.wrap (n + x)) a = a + m.sum
  | [], a, _, _, _ => by simp
  | x :: r, a, ha, h, hb => by
    have hx := h x List.mem_cons_self
    simp only [List.length_cons] at hb
    have hw : IntKind.i64.wrap (a + x) = a + x := wrap_id (by omega) (by omega)
    simp only [List.foldl_cons, List.sum_cons, hw]
    rw [foldl_sum r (a + x) (by omega) (fun y hy => h y (List.mem_cons_of_mem _ hy)) (by omega)]
    omega
theorem ok_facts {q : Int} {l : List Int} (h : okClaims q l = true) : l.length ≤ 8 ∧ (∀ x ∈ l, 0 ≤ x ∧ x ≤ 100000) ∧ 0 ≤ q ∧ q ≤ sumI l := by
  simp only [okClaims, Bool.and_eq_true, decide_eq_true_eq, Bool.not_eq_true', List.any_eq_false] at h
  obtain ⟨⟨⟨_, h1⟩, h2⟩, h3, h4⟩ := h
  refine ⟨h1, fun x hx => ?_, h3, h4⟩
  have := h2 x hx
  simpa [wrongRight] using this
theorem sumAt_eq {q : Int} {l : List Int} (h : okClaims q l = true) {n : Int} (hn : 0 ≤ n) : sumAt l n = psum l n := by
  obtain ⟨h1, h2, _, _⟩ := ok_facts h
  have := foldl_sum (l.map (minI · n)) 0 (by omega) (fun x hx => by
    obtain ⟨y, hy, rfl⟩ := List.mem_map.1 hx
    have := h2 y hy
    unfold minI; split <;> omega) (by simp; omega)
  simp only [sumAt, sumI, atI, psum]
  rw [this]; omega
theorem level_unique {q : Int} {l : List Int} (h : okClaims q l = true) {n m : Int} (hn : IsLevel q l n) (hm : IsLevel q l m) : n = m := by
  have key : ∀ {n m : Int}, IsLevel q l n → IsLevel q l m → ¬ n < m := fun {n m} hn hm hlt => by
    obtain ⟨a1, a2, a3, a4⟩ := hn
    obtain ⟨b1, b2, b3, b4⟩ := hm
    rcases a4 with a4 | a4
    · omega
    · rw [sumAt_eq h (by omega)] at a4 b3
      have := psum_mono (show n + 1 ≤ m by omega) l
      omega
  have h1 := key hn hm
  have h2 := key hm hn
  omega
theorem bis_level {q : Int} {l : List Int} : ∀ (f : Nat) {lo hi : Int}, 0 ≤ lo → lo < hi → hi ≤ 100001 → hi - lo ≤ f → sumAt l lo ≤ q → (hi = 100001 ∨ q < sumAt l hi) → IsLevel q l (bis q l f lo hi)
  | 0, lo, hi, _, h1, _, h3, _, _ => by omega
  | f + 1, lo, hi, h0, h1, h2, h3, h4, h5 => by
    rw [bis]
    split
    · split
      · rename_i hd he
        exact bis_level f (by omega) (by omega) h2 (by omega) he h5
      · rename_i hd he
        exact bis_level f h0 (by omega) (by omega) (by omega) h4 (.inr (by omega))
    · have e : hi = lo + 1 := by omega
      subst e
      exact ⟨h0, by omega, h4, h5.imp (by omega) id⟩
theorem lin_level {q : Int} {l : List Int} : ∀ (f : Nat) {n : Int}, 0 ≤ n → n + f = 100000 → sumAt l n ≤ q → IsLevel q l (lin q l f n)
  | 0, n, h0, h1, h2 => ⟨h0, by simp [lin]; omega, h2, .inl (by simp [lin]; omega)⟩
  | f + 1, n, h0, h1, h2 => by
    rw [lin]
    split
    · rename_i h
      exact lin_level f (by omega) (by omega) h
    · rename_i h
      exact ⟨h0, by omega, h2, .inr (by omega)⟩
theorem lvl_eq {q : Int} {l : List Int} (h : okClaims q l = true) : lvlR q l = lvl q l := by
  obtain ⟨h1, h2, h3, h4⟩ := ok_facts h
  have hz : sumAt l 0 ≤ q := by
    rw [sumAt_eq h (by omega), psum_zero fun x hx => (h2 x hx).1]
    exact h3
  exact level_unique h (lin_level 100000 (by omega) (by omega) hz) (bis_level 100001 (by omega) (by omega) (by omega) (by omega) hz (.inl rfl))
/-- what the shares are -/
def sharesA (q : Int) (l : List Int) : List Int := if okClaims q l then sharesOf q l (lvl q l) else []
def codeA (q : Int) (l : List Int) : Int := if okClaims q l then 0 else 100
theorem sharesA_length (q : Int) (l : List Int) : (sharesA q l).length ≤ l.length := by
  unfold sharesA
  split
  · have := spread_length (n := lvl q l) (left := IntKind.i64.wrap (q - sumAt l (lvl q l))) (l := l) (i := l.length) (Nat.le_refl _)
    rw [List.take_length] at this
    rw [sharesOf, this]; exact Nat.le_refl _
  · simp
def H15 (ctx : Ctx) : Prop := ∀ (q : Int) (l : List Int) (ro c : Bool), l.length < 2^62 → ctx 15 [(ro, fClaims q c l)] = some [.us 1 (ints (sharesA q l)), .fv (.int .i64 (codeA q l))]
def H16 (ctx : Ctx) : Prop := ∀ (q : Int) (l : List Int) (ro c : Bool), l.length < 2^62 → ctx 16 [(ro, fClaims q c l)] = some [.us 1 (ints (sharesA q l)), .fv (.int .i64 (codeA q l))]
def H17 (ctx : Ctx) : Prop := ∀ (l m : List Int), l.length < 2^62 → m.length < 2^62 → ∀ (ro r2 c c2 : Bool), ctx 17 [(ro, .sl c 1 (ints l)), (r2, .sl c2 1 (ints m))] = some [.fv (.bool (decide (l = m)))]
theorem w15 (ctx : Ctx) (hC : CtxOk (pg ctx)) (h18 : H18 ctx) (h48 : H48 ctx) (h49 : H49 ctx) (q : Int) (l : List Int) (hl : l.length < 2^62) (ro c : Bool) :
    Valid Try.prog 15 [(ro, fClaims q c l)] [.us 1 (ints (sharesA q l)), .fv (.int .i64 (codeA q l))] := by
  unfold sharesA codeA
  cases h : okClaims q l with
  | false => exact v15 ctx hC h18 h48 h49 q l hl ro c h
  | true => exact v15g ctx hC h18 h48 h49 q l (by have := (ok_facts h).1; omega) ro c h
theorem w16 (ctx : Ctx) (hC : CtxOk (pg ctx)) (h19 : H19 ctx) (h38 : H38 ctx) (h50 : H50 ctx) (q : Int) (l : List Int) (hl : l.length < 2^62) (ro c : Bool) :
    Valid Try.prog 16 [(ro, fClaims q c l)] [.us 1 (ints (sharesA q l)), .fv (.int .i64 (codeA q l))] := by
  unfold sharesA codeA
  cases h : okClaims q l with
  | false => exact v16 ctx hC h19 q l hl ro c h
  | true =>
    rw [← lvl_eq h]
    exact v16g ctx hC h19 h38 h50 q l (by have := (ok_facts h).1; omega) ro c h
theorem v3 (ctx : Ctx) (hC : CtxOk (pg ctx)) (h15 : H15 ctx) (h16 : H16 ctx) (h17 : H17 ctx) (h18 : H18 ctx) (h19 : H19 ctx) (h20 : ctx 20 [] = some [.fv (.bool true)]) (q : Int) (l : List Int) (hl : l.length < 2^62) (ro c : Bool) :
    Valid Try.prog 3 [(ro, fClaims q c l)] [.fv (.bool true)] := by
  refine valid_of_ev (G := pg ctx) (tok ctx) hC mixed Try.func3 T3 L3 (by simp [Try.ntmps3]) ⟨_, rfl, ?_⟩
  simp only [Try.ntmps3, Try.results3, initSt, initEnv, fClaims]
  have e15 := fun ro => h15 q l ro c hl
  have e16 := fun ro => h16 q l ro c hl
  have e18 := fun ro => h18 q l ro c hl
  have e19 := fun ro => h19 q l ro c hl
  have hlen := sharesA_length q l
  have e17 := h17 (sharesA q l) (sharesA q l) (by omega) (by omega)
  simp only [fClaims] at e15 e16 e18 e19
  have htk : (sharesA q l).take (sharesA q l).length = sharesA q l := List.take_of_length_le (Nat.le_refl _)
  refine ev_seq (ev_reg (by simp; rfl) ?_)  -- region 0
  refine ev_seq (ev_reg (by simp [e15]; rfl) ?_)  -- region 1
  refine ev_seq (ev_reg (by simp [e16]; rfl) ?_)  -- region 2
  refine ev_seq (ev_drw rfl (by kernel_rfl) (by kernel_rfl) (by simp [e17, e18, e19, h20, htk]; rfl) ?_)  -- region 3
  refine ev_ret ?_
  simp
end Go.Proofs.Ytoafhoihigfllaa.E
