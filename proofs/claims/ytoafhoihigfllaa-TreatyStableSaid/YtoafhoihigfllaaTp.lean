/-
  The chapter of the treaty: the law of the quota walked. Conditions: none.
-/
import Derived.Test.YtoafhoihigfllaaTk
namespace Go.Proofs.Ytoafhoihigfllaa.E
open Go Go.RowKit
set_option linter.unusedVariables false
set_option linter.unusedSimpArgs false
def H37 (ctx : Ctx) : Prop := ∀ (n d : Int), d ≠ 0 → ∀ (r1 r2 : Bool), ctx 37 [(r1, .int .i64 n), (r2, .int .i64 d)] = some [.fv (.int .i64 (modI n d))]
theorem v7 (ctx : Ctx) (hC : CtxOk (pg ctx)) (h15 : H15 ctx) (h18 : H18 ctx) (h20 : ctx 20 [] = some [.fv (.bool true)]) (q : Int) (l : List Int) (hl : l.length < 2^62) (set : Int) (ro r2 c : Bool) (hbad : okClaims q l = false) :
    Valid Try.prog 7 [(ro, fClaims q c l), (r2, .int .i64 set)] [.fv (.bool true)] := by
  refine valid_of_ev (G := pg ctx) (tok ctx) hC mixed Try.func7 T7 L7 (by simp [Try.ntmps7]) ⟨_, rfl, ?_⟩
  simp only [Try.ntmps7, Try.results7, initSt, initEnv, fClaims]
  have e15 := fun ro => h15 q l ro c hl
  have e18 := fun ro => h18 q l ro c hl
  simp only [fClaims, sharesA, codeA, hbad] at e15 e18
  refine ev_seq (ev_reg (by simp; rfl) ?_)  -- region 0
  refine ev_seq (ev_reg (by simp [e15]; rfl) ?_)  -- region 1
  refine ev_seq (ev_seq (ev_reg (by simp [unsetS]; rfl) ?_))  -- region 2
  refine ev_cond rfl (fun hb => ?_) (fun hb => by simp at hb)  -- 54
  refine ev_seq (ev_reg (by simp [h20]; rfl) ?_)  -- region 3
  refine ev_ret ?_
  simp
theorem fair_bounds {q : Int} {l s : List Int} {n : Int} (h : Fair q l s n) (hn : 0 ≤ n) (k2 : ∀ x ∈ l, 0 ≤ x ∧ x ≤ 100000) : ∀ x ∈ s, 0 ≤ x ∧ x ≤ 100000 := fun x hx => by
  obtain ⟨j, hj, rfl⟩ := List.getElem_of_mem hx
  obtain ⟨r, e1, g1, g2⟩ := h.get j s[j] (List.getElem?_eq_getElem hj)
  obtain ⟨r1, r2⟩ := k2 r (List.mem_of_getElem? e1)
  have g3 : 0 ≤ minI r n := by unfold minI; split <;> omega
  have g4 : minI r (n + 1) ≤ r := by unfold minI; split <;> omega
  omega
theorem v7g (ctx : Ctx) (hC : CtxOk (pg ctx)) (h15 : H15 ctx) (h18 : H18 ctx) (h36 : H36 ctx) (h37 : H37 ctx) (h38 : H38 ctx) (h20 : ctx 20 [] = some [.fv (.bool true)]) (q : Int) (l : List Int) (set : Int) (ro r2 c : Bool) (hok : okClaims q l = true) :
    Valid Try.prog 7 [(ro, fClaims q c l), (r2, .int .i64 set)] [.fv (.bool true)] := by
  refine valid_of_ev (G := pg ctx) (tok ctx) hC mixed Try.func7 T7 L7 (by simp [Try.ntmps7]) ⟨_, rfl, ?_⟩
  simp only [Try.ntmps7, Try.results7, initSt, initEnv, fClaims]
  obtain ⟨k1, k2, k3, k4⟩ := ok_facts hok
  have hl : l.length < 2^62 := by omega
  have hlen1 : 1 ≤ l.length := by simp only [okClaims, Bool.and_eq_true, decide_eq_true_eq] at hok; exact hok.1.1.1
  have e15 := fun ro => h15 q l ro c hl
  have e15' := fun ro => h15 (q + 1) l ro c hl
  have e18 := fun ro => h18 q l ro c hl
  have hfair := shares_fair hok
  have hc : codeA q l = 0 := by simp [codeA, hok]
  simp only [fClaims, hok, if_true, hc] at e15 e15' e18
  generalize hS : sharesA q l = S at e15 hfair
  obtain ⟨f1, f2, f3⟩ := hfair
  generalize hn : lvl q l = n at f3
  have hn0 : 0 ≤ n ∧ n ≤ 100000 := by rw [← hn]; exact ⟨(lvl_level hok).1, (lvl_level hok).2.1⟩
  have hel : ∀ (i : Nat) (h : i < l.length) (h' : i < S.length), minI l[i] n ≤ S[i] ∧ S[i] ≤ minI l[i] (n + 1) := fun i h h' => by
    obtain ⟨r, e1, e2, e3⟩ := f3 i S[i] (List.getElem?_eq_getElem h')
    rw [List.getElem?_eq_getElem h] at e1
    simp only [Option.some.injEq] at e1; subst e1
    exact ⟨e2, e3⟩
  have e37 := fun (n : Int) (r1 r2 : Bool) => h37 n 2 (by omega) r1 r2
  have e36 : ∀ (a b c : Int) (r1 r2 r3 : Bool), ctx 36 [(r1, .int .i64 a), (r2, .int .i64 b), (r3, .int .i64 c)] = some [.fv (.bool (decide (b ≤ a) && decide (a ≤ c)))] := fun a b c r1 r2 r3 => h36 r1 r2 r3 a b c
  have e36' : ∀ (r1 r2 r3 : Bool), ctx 36 [(r1, .int .i64 l.length), (r2, .int .i64 1), (r3, .int .i64 8)] = some [.fv (.bool true)] := fun r1 r2 r3 => by rw [h36]; simp; omega
  have hsum := sum_le fun x hx => (k2 x hx).2
  have hsI := sumI_eq k1 k2
  have hmul : IntKind.i64.wrap ((l.length : Int) * 100000) = l.length * 100000 := wrap_id (by omega) (by omega)
  have hq0 : ¬ q < 0 := by omega
  have hq1 : ¬ (l.length : Int) * 100000 < q := by omega
  refine ev_seq (ev_reg (by simp; rfl) ?_)  -- region 0
  refine ev_seq (ev_reg (by simp [e15]; rfl) ?_)  -- region 1
  refine ev_seq (ev_seq (ev_reg (by simp [e18, e36', f1, hmul, hq0, hq1]; rfl) ?_))  -- region 2
  refine ev_cond rfl (fun hb => by simp at hb) (fun hb => ?_)  -- 54
  refine ev_skip ?_
  refine ev_seq (ev_reg (by simp; rfl) ?_)  -- region 4
  refine ev_seq (ev_seq (ev_reg (by simp; rfl) ?_))  -- region 5
  refine ev_block ?_  -- 0
  refine ev_loop (fun x : Nat × Int × Int × Int => ({ env := [(1, .fv r2 (.int .i64 set)), (2, .ptr 2 0), (5, .own 5 0 l.length), (7, .fv false (.int .i64 x.2.1)), (8, .fv false (.int .i64 x.2.2.1)), (9, .fv false (.int .i64 x.2.2.2)), (10, .fv false (.int .i64 x.1))], blk := [(2, .box [.fv false (.int .i64 q), .fv ro (.sl c 1 (ints l))]), (5, .arr 1 (ints S))] } : St)) (fun x => l.length - x.1) (fun x => x.1 ≤ l.length ∧ 0 ≤ x.2.1 ∧ x.2.1 ≤ x.1 * 100001 ∧ 0 ≤ x.2.2.1 ∧ x.2.2.1 ≤ x.1 * 100001 ∧ (S.take x.1).sum ≤ x.2.1 + x.2.2.1 ∧ 0 ≤ x.2.2.2 ∧ x.2.2.2 ≤ 100001 ∧ x.2.2.2 ≤ n + 1) (0, 0, 0, 0) (by simp [f1]) ⟨by omega, by simp, by simp, by simp, by simp, by simp, by simp, by simp, by simp only; omega⟩ (by simp [R]; omega) (fun x hi => ?_)
  obtain ⟨i, got, oth, most⟩ := x
  obtain ⟨i1, i2, i3, i4, i5, i6, i7, i8, i9⟩ := hi
  simp only at i1 i2 i3 i4 i5 i6 i7 i8 i9
  refine ev_seq (ev_seq (ev_reg (by simp; rfl) ?_))  -- region 6
  refine ev_cond rfl (fun hb => ?_) (fun hb => ?_)  -- 68
  · simp at hb
    have hbS : i < S.length := by omega
    obtain ⟨g1, g2⟩ := hel i hb hbS
    obtain ⟨r1', r2'⟩ := k2 l[i] (List.getElem_mem _)
    have g3 := @minI_le l[i] (n + 1)
    have a0 : 0 ≤ S[i] := by have : 0 ≤ minI l[i] n := (by unfold minI; split <;> omega); omega
    have a1 : S[i] ≤ l[i] := by have : minI l[i] (n + 1) ≤ l[i] := (by unfold minI; split <;> omega); omega
    have a2 : S[i] ≤ n + 1 := by have : minI l[i] (n + 1) ≤ n + 1 := (by unfold minI; split <;> omega); omega
    have a3 : ¬ 100000 < l[i] := by omega
    have hst : (S.take (i + 1)).sum = (S.take i).sum + S[i] := by rw [List.take_add_one, List.getElem?_eq_getElem hbS, List.sum_append]; show _ + (S[i] + 0) = _; omega
    obtain ⟨sv, hsv⟩ : ∃ sv, fshift .shr .i64 set (i : Int) = some (.int .i64 sv) := ⟨_, by simp only [fshift]; rw [if_neg (by omega)]⟩
    have hw1 : IntKind.i64.wrap ((i : Int) + 1) = (i + 1 : Nat) := wrap_nat (n := i + 1) (by omega)
    have hwg : IntKind.i64.wrap (got + S[i]) = got + S[i] := wrap_id (by omega) (by omega)
    have hwo : IntKind.i64.wrap (oth + l[i]) = oth + l[i] := wrap_id (by omega) (by omega)
    have hm : ∀ z, z = (if most < S[i] then S[i] else most) → 0 ≤ z ∧ z ≤ 100001 ∧ z ≤ n + 1 := fun z hz => by split at hz <;> omega
    generalize hz : (if most < S[i] then S[i] else most) = z at hm
    have hm := hm z rfl
    refine ev_skip ?_
    refine ev_seq (ev_block ?_)  -- 1
    refine ev_seq (ev_seq (ev_drw rfl (by kernel_rfl) (by kernel_rfl) (by simp [hb, f1, e36, a0, a1, a3]; rfl) ?_))  -- region 8
    refine ev_cond rfl (fun hb => by simp at hb) (fun hb' => ?_)  -- 82
    refine ev_skip ?_
    refine ev_seq (ev_reg (by simp [hb, f1, hz]; rfl) ?_)  -- region 10
    refine ev_seq (ev_reg (by simp [hsv, e37]; rfl) ?_)  -- region 11
    refine ev_cond rfl (fun hb2 => ?_) (fun hb2 => ?_)  -- 93
    · refine ev_reg (by simp [hb, f1, hwg]; rfl) ?_  -- region 12
      refine ev_reg (by simp [hw1]; rfl) ?_  -- region 7
      exact ⟨(i + 1, got + S[i], oth, z), rfl, ⟨by simp only; omega, by simp only; omega, by simp only; omega, by simp only; omega, by simp only; omega, by simp only; omega, hm.1, hm.2.1, hm.2.2⟩, by simp only; omega⟩
    · refine ev_reg (by simp [hb, f1, hwo]; rfl) ?_  -- region 13
      refine ev_reg (by simp [hw1]; rfl) ?_  -- region 7
      exact ⟨(i + 1, got, oth + l[i], z), rfl, ⟨by simp only; omega, by simp only; omega, by simp only; omega, by simp only; omega, by simp only; omega, by simp only; omega, hm.1, hm.2.1, hm.2.2⟩, by simp only; omega⟩
  · simp at hb
    have hie : i = l.length := by omega
    have hSb : ∀ x ∈ S, 0 ≤ x ∧ x ≤ 100000 := fun x hx => by
      obtain ⟨j, hj, rfl⟩ := List.getElem_of_mem hx
      have hj' : j < l.length := by omega
      obtain ⟨g1, g2⟩ := hel j hj' hj
      obtain ⟨r1', r2'⟩ := k2 l[j] (List.getElem_mem _)
      have g3 : 0 ≤ minI l[j] n := by unfold minI; split <;> omega
      have g4 : minI l[j] (n + 1) ≤ l[j] := by unfold minI; split <;> omega
      omega
    have hSI : sumI S = q := by rw [sumI_eq (by omega) hSb, f2]
    have e38S : ∀ (ro c : Bool), ctx 38 [(ro, .sl c 1 (ints S))] = some [.fv (.int .i64 q)] := fun ro c => by rw [h38 ro c S (by omega), hSI]
    have e38l : ∀ (ro c : Bool), ctx 38 [(ro, .sl c 1 (ints l))] = some [.fv (.int .i64 (sumI l))] := fun ro c => h38 ro c l hl
    have htS : S.take l.length = S := List.take_of_length_le (by omega)
    rw [hie, ← f1, List.take_length, f2] at i6
    have hwq : IntKind.i64.wrap (q - oth) = q - oth := wrap_id (by omega) (by omega)
    have hgot : ¬ got < q - oth := by omega
    have hwm : IntKind.i64.wrap (most - 1) = most - 1 := wrap_id (by omega) (by omega)
    refine ev_exit ?_  -- 0
    refine ev_seq (ev_seq (ev_drw rfl (by kernel_rfl) (by kernel_rfl) (by simp [e38S, htS, hwq, hgot]; rfl) ?_))  -- region 14
    refine ev_cond rfl (fun hb => by simp at hb) (fun hb => ?_)  -- 119
    refine ev_skip ?_
    refine ev_seq (ev_seq (ev_reg (by simp; rfl) ?_))  -- region 16
    refine ev_block ?_  -- 2
    refine ev_loop (fun i : Nat => ({ env := [(2, .ptr 2 0), (5, .own 5 0 l.length), (9, .fv false (.int .i64 most)), (11, .fv false (.int .i64 i))], blk := [(2, .box [.fv false (.int .i64 q), .fv ro (.sl c 1 (ints l))]), (5, .arr 1 (ints S))] } : St)) (fun i => l.length - i) (fun i => i ≤ l.length) 0 rfl (by simp) (by simp [R]; omega) (fun i hi => ?_)
    refine ev_seq (ev_seq (ev_reg (by simp; rfl) ?_))  -- region 17
    refine ev_cond rfl (fun hb => ?_) (fun hb => ?_)  -- 123
    · simp at hb
      have hbS : i < S.length := by omega
      obtain ⟨g1, g2⟩ := hel i hb hbS
      have hw1 : IntKind.i64.wrap ((i : Int) + 1) = (i + 1 : Nat) := wrap_nat (n := i + 1) (by omega)
      have hno : S[i] < l[i] → ¬ S[i] < most - 1 := fun h => by
        have : n ≤ minI l[i] n ∨ l[i] ≤ minI l[i] n := by unfold minI; split <;> omega
        omega
      refine ev_skip ?_
      refine ev_seq (ev_block ?_)  -- 3
      by_cases hlt : S[i] < l[i]
      · have hno := hno hlt
        refine ev_seq (ev_drw rfl (by kernel_rfl) (by kernel_rfl) (by simp [hb, hbS, f1, hlt, hno, hwm]; rfl) ?_)  -- region 19
        refine ev_cond rfl (fun hb => by simp at hb) (fun hb => ?_)  -- 144
        refine ev_skip ?_
        refine ev_reg (by simp [hw1]; rfl) ?_  -- region 18
        exact ⟨i + 1, rfl, by omega, by omega⟩
      · refine ev_seq (ev_drw rfl (by kernel_rfl) (by kernel_rfl) (by simp [hb, hbS, f1, hlt, unsetS]; rfl) ?_)  -- region 19
        refine ev_cond rfl (fun hb => by simp at hb) (fun hb => ?_)  -- 144
        refine ev_skip ?_
        refine ev_reg (by simp [hw1]; rfl) ?_  -- region 18
        exact ⟨i + 1, rfl, by omega, by omega⟩
    · simp at hb
      refine ev_exit ?_  -- 2
      refine ev_seq (ev_seq (ev_drw rfl (by kernel_rfl) (by kernel_rfl) (by simp [e38l]; rfl) ?_))  -- region 21
      refine ev_cond rfl (fun hb => ?_) (fun hb => ?_)  -- 150
      · refine ev_seq (ev_reg (by simp [h20]; rfl) ?_)  -- region 22
        refine ev_ret ?_
        simp
      · simp at hb
        have hok' : okClaims (q + 1) l = true := by
          simp only [okClaims, Bool.and_eq_true, decide_eq_true_eq] at hok ⊢
          exact ⟨hok.1, by omega, by omega⟩
        have hw1q : IntKind.i64.wrap (q + 1) = q + 1 := wrap_id (by omega) (by omega)
        have hc' : codeA (q + 1) l = 0 := by simp [codeA, hok']
        have hfair' := shares_fair hok'
        have hmore := fun (i : Nat) (a b : Int) => @shares_more q l hok hok' i a b
        rw [hc'] at e15'
        rw [hS] at hmore
        have hMb := fair_bounds hfair' (lvl_level hok').1 k2
        generalize hM : sharesA (q + 1) l = M at e15' hfair' hmore hMb
        obtain ⟨m1, m2, m3⟩ := hfair'
        refine ev_skip ?_
        refine ev_seq (ev_reg (by simp; rfl) ?_)  -- region 23
        refine ev_seq (ev_reg (by simp [hw1q]; rfl) ?_)  -- region 24
        refine ev_seq (ev_reg (by simp [e15']; rfl) ?_)  -- region 25
        have e38M : ∀ (ro c : Bool), ctx 38 [(ro, .sl c 1 (ints M))] = some [.fv (.int .i64 (q + 1))] := fun ro c => by rw [h38 ro c M (by omega), sumI_eq (by omega) hMb, m2]
        have htM : M.take l.length = M := List.take_of_length_le (by omega)
        refine ev_seq (ev_seq (ev_drw rfl (by kernel_rfl) (by kernel_rfl) (by simp [e38M, htM, m1, f1, hw1q]; rfl) ?_))  -- region 26
        refine ev_cond rfl (fun hb => by simp at hb) (fun hb => ?_)  -- 178
        refine ev_skip ?_
        refine ev_seq (ev_seq (ev_reg (by simp; rfl) ?_))  -- region 28
        refine ev_block ?_  -- 4
        refine ev_loop (fun i : Nat => ({ env := [(5, .own 5 0 l.length), (13, .own 13 0 l.length), (14, .fv false (.int .i64 i))], blk := [(5, .arr 1 (ints S)), (13, .arr 1 (ints M))] } : St)) (fun i => l.length - i) (fun i => i ≤ l.length) 0 (by simp [m1, f1]) (by simp) (by simp [R]; omega) (fun i hi => ?_)
        refine ev_seq (ev_seq (ev_reg (by simp; rfl) ?_))  -- region 29
        refine ev_cond rfl (fun hb => ?_) (fun hb => ?_)  -- 182
        · simp at hb
          have hbS : i < S.length := by omega
          have hbM : i < M.length := by omega
          have hno : ¬ M[i] < S[i] := by
            have := hmore i S[i] M[i] (List.getElem?_eq_getElem hbS) (List.getElem?_eq_getElem hbM)
            omega
          have hw1 : IntKind.i64.wrap ((i : Int) + 1) = (i + 1 : Nat) := wrap_nat (n := i + 1) (by omega)
          refine ev_skip ?_
          refine ev_seq (ev_block ?_)  -- 5
          refine ev_seq (ev_drw rfl (by kernel_rfl) (by kernel_rfl) (by simp [hb, hbS, hbM, f1, m1, hno]; rfl) ?_)  -- region 31
          refine ev_cond rfl (fun hb => by simp at hb) (fun hb => ?_)  -- 193
          refine ev_skip ?_
          refine ev_reg (by simp [hw1]; rfl) ?_  -- region 30
          exact ⟨i + 1, rfl, by omega, by omega⟩
        · simp at hb
          refine ev_exit ?_  -- 4
          refine ev_seq (ev_reg (by simp [h20]; rfl) ?_)  -- region 33
          refine ev_ret ?_
          simp
end Go.Proofs.Ytoafhoihigfllaa.E
