/-
  The chapter of the treaty: the laws of the grounds, walked. Conditions: none.
-/
import Derived.Test.YtoafhoihigfllaaCx
import Derived.Test.YtoafhoihigfllaaTp
namespace Go.Proofs.Ytoafhoihigfllaa.E
open Go Go.RowKit
set_option linter.unusedVariables false
set_option linter.unusedSimpArgs false
theorem v39 (ctx : Ctx) (hC : CtxOk (pg ctx)) (w : List (Bool × List Int)) (c : Bool) (h24 : H24 ctx w c) (h36 : H36 ctx) (h40 : H40 ctx) (ro : Bool) :
    Valid Try.prog 39 [(ro, .sl c 1 (rowsF w))] [.fv (.bool (okWishes w))] := by
  refine valid_of_ev (G := pg ctx) (tok ctx) hC mixed Try.func39 T39 L39 (by simp [Try.ntmps39]) ⟨_, rfl, ?_⟩
  simp only [Try.ntmps39, Try.results39, initSt, initEnv]
  unfold H24 codeW at h24
  cases hok : okWishes w with
  | false =>
    rw [hok] at h24
    simp only [Bool.false_eq_true, if_false] at h24
    refine ev_seq (ev_reg (by simp; rfl) ?_)  -- region 0
    refine ev_seq (ev_reg (by simp [h24]; rfl) ?_)  -- region 1
    refine ev_seq (ev_seq (ev_reg (by simp; rfl) ?_))  -- region 2
    refine ev_block ?_  -- 0
    refine ev_loop (fun i : Nat => ({ env := [(0, V.fv ro (.sl c 1 (rowsF w))), (3, V.fv false (.bool false)), (4, V.fv false (.int .i64 0))], blk := [] } : St)) (fun i => 0) (fun i => True) 0 rfl trivial (by simp [R]) (fun i hi => ?_)
    refine ev_seq (ev_seq (ev_reg (by simp; rfl) ?_))  -- region 3
    refine ev_cond rfl (fun hb => by simp at hb) (fun hb => ?_)  -- 20
    refine ev_exit ?_  -- 0
    refine ev_seq (ev_reg (by simp; rfl) ?_)  -- region 10
    refine ev_ret ?_
    simp
  | true =>
    rw [hok] at h24
    simp only [if_true] at h24
    have hw := okWishes_wish hok
    have h8 := hw.few
    have e36 : ∀ r1 r2 r3 : Bool, ctx 36 [(r1, .int .i64 w.length), (r2, .int .i64 1), (r3, .int .i64 8)] = some [.fv (.bool true)] := fun r1 r2 r3 => by
      rw [h36]
      have h1 : decide ((1 : Int) ≤ w.length) = true := decide_eq_true (by omega)
      have h2 : decide ((w.length : Int) ≤ 8) = true := decide_eq_true (by omega)
      rw [h1, h2]; rfl
    refine ev_seq (ev_reg (by simp; rfl) ?_)  -- region 0
    refine ev_seq (ev_reg (by simp [h24, e36]; rfl) ?_)  -- region 1
    refine ev_seq (ev_seq (ev_reg (by simp; rfl) ?_))  -- region 2
    refine ev_block ?_  -- 0
    refine ev_loop (fun i : Nat => ({ env := [(0, V.fv ro (.sl c 1 (rowsF w))), (3, V.fv false (.bool true)), (4, V.fv false (.int .i64 i))], blk := [] } : St)) (fun i => w.length - i) (fun i => i ≤ w.length) 0 rfl (by simp) (by simp [R]; omega) (fun i hi => ?_)
    refine ev_seq (ev_seq (ev_reg (by simp; rfl) ?_))  -- region 3
    refine ev_cond rfl (fun hb => ?_) (fun hb => ?_)  -- 20
    · simp at hb
      have hlen := (hw.ord i hb).len
      rw [rowAt_get hb] at hlen
      have hw1 : IntKind.i64.wrap ((i : Int) + 1) = (i + 1 : Nat) := wrap_nat (n := i + 1) (by omega)
      refine ev_skip ?_
      refine ev_seq (ev_block ?_)  -- 1
      refine ev_seq (ev_reg (by simp [hb, rowF, hlen]; rfl) ?_)  -- region 5
      refine ev_seq (ev_reg (by simp; rfl) ?_)  -- region 6
      refine ev_block ?_  -- 2
      refine ev_loop (fun k : Nat => ({ env := [(0, V.fv ro (.sl c 1 (rowsF w))), (3, V.fv false (.bool true)), (4, V.fv false (.int .i64 i)), (5, V.fv false (.int .i64 k))], blk := [] } : St)) (fun k => w.length - k) (fun k => k ≤ w.length) 0 rfl (by simp) (by simp [R]; omega) (fun k hk => ?_)
      refine ev_seq (ev_seq (ev_reg (by simp; rfl) ?_))  -- region 7
      refine ev_cond rfl (fun hb2 => ?_) (fun hb2 => ?_)  -- 37
      · simp at hb2
        have hw2 : IntKind.i64.wrap ((k : Int) + 1) = (k + 1 : Nat) := wrap_nat (n := k + 1) (by omega)
        have e40 : ∀ (ro r2 c : Bool), ctx 40 [(ro, .sl c 1 (ints w[i].2)), (r2, .int .i64 (k : Int))] = some [.fv (.int .i64 ((plN w i k : Nat) : Int))] := fun ro r2 c => by
          rw [h40 w[i].2 k (by omega) ro r2 c, ← rowAt_get hb, idx_idxOf (row_mem hw hb hb2)]; rfl
        refine ev_skip ?_
        refine ev_seq (ev_block ?_)  -- 3
        refine ev_reg (by simp [hb, rowF, e40]; rfl) ?_  -- region 9
        refine ev_reg (by simp [hw2]; rfl) ?_  -- region 8
        exact ⟨k + 1, by simp, by omega, by omega⟩
      · simp at hb2
        refine ev_exit ?_  -- 2
        refine ev_reg (by simp [hw1]; rfl) ?_  -- region 4
        exact ⟨i + 1, by simp, by omega, by omega⟩
    · refine ev_exit ?_  -- 0
      refine ev_seq (ev_reg (by simp; rfl) ?_)  -- region 10
      refine ev_ret ?_
      simp
theorem modI_bound (n : Int) (p : Nat) (h1 : 1 ≤ p) (h2 : p ≤ 256) : 0 ≤ modI n p ∧ modI n p ≤ (p : Int) - 1 := by
  have a := Int.tmod_lt_of_pos n (show (0 : Int) < p by omega)
  have b := Int.lt_tmod_of_pos n (show (0 : Int) < p by omega)
  unfold modI
  split
  · rw [wrap_id (by omega) (by omega)]; omega
  · omega
def H39 (ctx : Ctx) (w : List (Bool × List Int)) (c : Bool) : Prop := ∀ ro : Bool, ctx 39 [(ro, .sl c 1 (rowsF w))] = some [.fv (.bool (okWishes w))]
theorem v8 (ctx : Ctx) (hC : CtxOk (pg ctx)) (w : List (Bool × List Int)) (c : Bool) (set : Int) (h26 : H26 ctx w c) (h39 : H39 ctx w c) (h40 : H40 ctx) (h37 : H37 ctx) (h20 : ctx 20 [] = some [.fv (.bool true)])
    (h28 : okWishes w = true → ∀ (q : Int), 0 ≤ q → q ≤ ((2 ^ w.length : Nat) : Int) - 1 → ∀ (r0 r1 r2 cx : Bool), ctx 28 [(r0, .sl c 1 (rowsF w)), (r1, .sl cx 1 (ints (swapW w))), (r2, .int .i64 q)] = some [.fv (.bool false), .fv (.int .i64 0)]) (ro r1 : Bool) :
    Valid Try.prog 8 [(ro, .sl c 1 (rowsF w)), (r1, .int .i64 set)] [.fv (.bool true)] := by
  refine valid_of_ev (G := pg ctx) (tok ctx) hC mixed Try.func8 T8 L8 (by simp [Try.ntmps8]) ⟨_, rfl, ?_⟩
  simp only [Try.ntmps8, Try.results8, initSt, initEnv]
  unfold H26 swapW codeW at h26
  unfold H39 at h39
  unfold swapW at h28
  cases hok : okWishes w with
  | false =>
    rw [hok] at h26 h39
    simp only [Bool.false_eq_true, if_false] at h26
    refine ev_seq (ev_reg (by simp; rfl) ?_)  -- region 0
    refine ev_seq (ev_reg (by simp [h26]; rfl) ?_)  -- region 1
    refine ev_seq (ev_seq (ev_reg (by simp [h39]; rfl) ?_))  -- region 2
    refine ev_cond rfl (fun hb => ?_) (fun hb => by simp at hb)  -- 19
    refine ev_seq (ev_reg (by simp [h20]; rfl) ?_)  -- region 3
    refine ev_ret ?_
    simp
  | true =>
    have h28 := h28 hok
    rw [hok] at h26 h39 h28
    simp only [if_true] at h26 h28
    have hw := okWishes_wish hok
    have h8 := hw.few
    have hsw := swapped hw
    generalize swapOf w.length (ringsOf w) = x at *
    have hxl := hsw.ord.len
    have htx : List.take x.length (ints x) = ints x := List.take_of_length_le (by simp)
    obtain ⟨hp1, hp2, hp3⟩ := pow_small h8.2
    have hmin : min w.length IntKind.i64.bits = w.length := min_bits (by omega)
    have hpw : IntKind.i64.wrap ((2 ^ w.length : Nat) : Int) = ((2 ^ w.length : Nat) : Int) := wrap_nat (by omega)
    have hps : IntKind.i64.wrap (((2 ^ w.length : Nat) : Int) - 1) = ((2 ^ w.length : Nat) : Int) - 1 := wrap_id (by omega) (by omega)
    have e37 := h37 set ((2 ^ w.length : Nat) : Int) (by omega)
    have hmb := modI_bound set (2 ^ w.length) hp3 hp2
    generalize 2 ^ w.length = p at *
    generalize modI set (p : Int) = q at *
    obtain ⟨D, hg, hall⟩ := hsw.good
    have hf := hg.facts hw
    refine ev_seq (ev_reg (by simp; rfl) ?_)  -- region 0
    refine ev_seq (ev_reg (by simp [h26]; rfl) ?_)  -- region 1
    refine ev_seq (ev_seq (ev_reg (by simp [h39]; rfl) ?_))  -- region 2
    refine ev_cond rfl (fun hb => by simp at hb) (fun hb => ?_)  -- 19
    refine ev_skip ?_
    refine ev_seq (ev_seq (ev_reg (by simp [hxl]; rfl) ?_))  -- region 4
    refine ev_cond rfl (fun hb => by simp at hb) (fun hb => ?_)  -- 38
    refine ev_skip ?_
    refine ev_seq (ev_seq (ev_reg (by simp; rfl) ?_))  -- region 6
    refine ev_block ?_  -- 0
    refine ev_loop (fun i : Nat => ({ env := [(0, V.fv ro (.sl c 1 (rowsF w))), (1, V.fv r1 (.int .i64 set)), (5, V.own 5 0 x.length), (7, V.fv false (.int .i64 i))], blk := [(5, Blk.arr 1 (ints x))] } : St)) (fun i => w.length - i) (fun i => i ≤ w.length) 0 (by simp [hxl]) (by simp) (by simp [R]; omega) (fun i hi => ?_)
    refine ev_seq (ev_seq (ev_reg (by simp; rfl) ?_))  -- region 7
    refine ev_cond rfl (fun hb => ?_) (fun hb => ?_)  -- 42
    · simp at hb
      have hw1 : IntKind.i64.wrap ((i : Int) + 1) = (i + 1 : Nat) := wrap_nat (n := i + 1) (by omega)
      have hix : i < x.length := by omega
      have hlen := (hw.ord i hb).len
      rw [rowAt_get hb] at hlen
      have hxi : x[i] = ((hasN x i : Nat) : Int) := by
        have := hsw.ord.rng x[i] (List.getElem_mem _)
        rw [hasN, List.getD_eq_getElem?_getD, List.getElem?_eq_getElem hix, Option.getD_some]; omega
      have hxn : hasN x i < w.length := hf.lt _ (hf.closed i (hall i hb))
      have hown := hf.own i (hall i hb)
      have e40x : ∀ (ro r2 c : Bool), ctx 40 [(ro, .sl c 1 (ints x)), (r2, .int .i64 (i : Int))] = some [.fv (.int .i64 ((x.idxOf (i : Int) : Nat) : Int))] := fun ro r2 c => by
        rw [h40 x i (by omega) ro r2 c, idx_idxOf (Wish.mem hsw.ord hb)]
      have e40r : ∀ g : Nat, g < w.length → ∀ (ro r2 c : Bool), ctx 40 [(ro, .sl c 1 (ints w[i].2)), (r2, .int .i64 (g : Int))] = some [.fv (.int .i64 ((plN w i g : Nat) : Int))] := fun g hg ro r2 c => by
        rw [h40 w[i].2 g (by omega) ro r2 c, ← rowAt_get hb, idx_idxOf (row_mem hw hb hg)]; rfl
      have e1 := e40r _ hxn
      have e2 := e40r i hb
      generalize hasN x i = xi at *
      generalize x.idxOf (i : Int) = a at *
      have hnl : (plN w i i < plN w i xi) = False := by simp; omega
      refine ev_skip ?_
      refine ev_seq (ev_block ?_)  -- 1
      refine ev_seq (ev_drw rfl (by kernel_rfl) (by kernel_rfl) (by simp [htx, hix, hxi, hb, rowF, e40x, e1, e2, hnl]; rfl) ?_)  -- region 9
      refine ev_cond rfl (fun hb => by simp at hb) (fun hb => ?_)  -- 78
      refine ev_skip ?_
      refine ev_reg (by simp [hw1]; rfl) ?_  -- region 8
      exact ⟨i + 1, by simp, by omega, by omega⟩
    · simp at hb
      refine ev_exit ?_  -- 0
      refine ev_seq (ev_drw rfl (by kernel_rfl) (by kernel_rfl) (by simp [fshift, hmin, hp1, hpw, hps, e37]; rfl) ?_)  -- region 11
      refine ev_seq (ev_seq (ev_reg (by simp; rfl) ?_))  -- region 12
      refine ev_block ?_  -- 2
      refine ev_loop (fun j : Nat => ({ env := [(0, V.fv ro (.sl c 1 (rowsF w))), (5, V.own 5 0 x.length), (8, V.own 8 0 2), (9, V.fv false (.int .i64 j))], blk := [(5, Blk.arr 1 (ints x)), (8, Blk.arr 1 [.int .i64 q, .int .i64 ((p : Int) - 1)])] } : St)) (fun j => 2 - j) (fun j => j ≤ 2) 0 rfl (by omega) (by simp [R]) (fun j hj => ?_)
      refine ev_seq (ev_seq (ev_reg (by simp; rfl) ?_))  -- region 13
      refine ev_cond rfl (fun hb => ?_) (fun hb => ?_)  -- 90
      · simp at hb
        have hw1 : IntKind.i64.wrap ((j : Int) + 1) = (j + 1 : Nat) := wrap_nat (n := j + 1) (by omega)
        have e28a := h28 q hmb.1 hmb.2
        have e28b := h28 ((p : Int) - 1) (by omega) (by omega)
        have hj2 : j = 0 ∨ j = 1 := by omega
        refine ev_skip ?_
        refine ev_seq (ev_block ?_)  -- 3
        refine ev_seq (ev_reg (σ' := { env := [(0, V.fv ro (.sl c 1 (rowsF w))), (5, V.own 5 0 x.length), (8, V.own 8 0 2), (9, V.fv false (.int .i64 j)), (10, V.fv false (.bool false)), (11, V.fv false (.int .i64 0))], blk := [(5, Blk.arr 1 (ints x)), (8, Blk.arr 1 [.int .i64 q, .int .i64 ((p : Int) - 1)])] }) (by rcases hj2 with rfl | rfl <;> simp [htx, e28a, e28b]) ?_)  -- region 15
        refine ev_seq (ev_reg (by simp; rfl) ?_)  -- region 16
        refine ev_cond rfl (fun hb => by simp at hb) (fun hb => ?_)  -- 107
        refine ev_skip ?_
        refine ev_reg (by simp [hw1]; rfl) ?_  -- region 14
        exact ⟨j + 1, by simp, by omega, by omega⟩
      · refine ev_exit ?_  -- 2
        refine ev_seq (ev_reg (by simp [h20]; rfl) ?_)  -- region 18
        refine ev_ret ?_
        simp
end Go.Proofs.Ytoafhoihigfllaa.E
namespace Go.Proofs.Ytoafhoihigfllaa.E
open Go Go.RowKit
set_option linter.unusedVariables false
set_option linter.unusedSimpArgs false
def pickI (bits : List Int) (i : Nat) : Int := if bits.length = 0 then 0 else bits.getD (i % bits.length) 0
theorem v47 (ctx : Ctx) (hC : CtxOk (pg ctx)) (h37 : H37 ctx) (bits : List Int) (i : Nat) (r1 r2 c : Bool) :
    Valid Try.prog 47 [(r1, .sl c 1 (ints bits)), (r2, .int .i64 i)] [.fv (.int .i64 (pickI bits i))] := by
  refine valid_of_ev (G := pg ctx) (tok ctx) hC mixed Try.func47 T47 L47 (by simp [Try.ntmps47]) ⟨_, rfl, ?_⟩
  simp only [Try.ntmps47, Try.results47, initSt, initEnv]
  refine ev_seq (ev_reg (by simp; rfl) ?_)  -- region 0
  obtain ⟨E, hE⟩ : ∃ E, E = ((bits.length : Int) == 0) := ⟨_, rfl⟩
  by_cases h0 : bits.length = 0
  · refine ev_seq (ev_seq (ev_reg (by simp; rfl) ?_))  -- region 1
    refine ev_cond rfl (fun hb => ?_) (fun hb => by simp at hb; simp [hb] at h0)  -- 7
    refine ev_seq (ev_reg (by simp; rfl) ?_)  -- region 2
    refine ev_ret ?_
    simp [pickI, h0]
  · have e37 := h37 i bits.length (by omega)
    rw [modI_nat] at e37
    have hlt : i % bits.length < bits.length := Nat.mod_lt _ (by omega)
    have hp : pickI bits i = bits[i % bits.length] := by rw [pickI, if_neg h0, List.getD_eq_getElem?_getD, List.getElem?_eq_getElem hlt]; rfl
    rw [hp]
    generalize i % bits.length = k at *
    refine ev_seq (ev_seq (ev_reg (by simp; rfl) ?_))  -- region 1
    refine ev_cond rfl (fun hb => by simp at hb; simp [hb] at h0) (fun hb => ?_)  -- 7
    refine ev_skip ?_
    refine ev_seq (ev_reg (by simp [e37, hlt]; rfl) ?_)  -- region 3
    refine ev_ret ?_
    simp
def H47 (ctx : Ctx) : Prop := ∀ (bits : List Int) (i : Nat) (r1 r2 c : Bool), ctx 47 [(r1, .sl c 1 (ints bits)), (r2, .int .i64 i)] = some [.fv (.int .i64 (pickI bits i))]
def mixK (bits : List Int) (i : Nat) (left : List Int) : Nat := (modI (pickI bits i) left.length).toNat
/-- what is left, and what has been chosen -/
def mixS (bits : List Int) (n : Nat) : Nat → List Int × List Int
  | 0 => (nn (List.range n), [])
  | i+1 => ((mixS bits n i).1.take (mixK bits i (mixS bits n i).1) ++ (mixS bits n i).1.drop (mixK bits i (mixS bits n i).1 + 1), (mixS bits n i).2 ++ [(mixS bits n i).1.getD (mixK bits i (mixS bits n i).1) 0])
def mixI (n : Nat) (bits : List Int) : List Int := (mixS bits n n).2
theorem mixK_lt {bits : List Int} {i : Nat} {left : List Int} (h : 0 < left.length) (h2 : left.length ≤ 256) : mixK bits i left < left.length ∧ modI (pickI bits i) left.length = ((mixK bits i left : Nat) : Int) := by
  have := modI_bound (pickI bits i) left.length h h2
  unfold mixK
  omega
theorem mixS_facts (bits : List Int) (n : Nat) (hn : n ≤ 256) : ∀ i, i ≤ n → (mixS bits n i).1.length = n - i ∧ (mixS bits n i).2.length = i ∧ ((mixS bits n i).2 ++ (mixS bits n i).1).Perm (nn (List.range n))
  | 0, _ => ⟨by simp [mixS], by simp [mixS], by simp [mixS]⟩
  | i+1, h => by
    obtain ⟨h1, h2, h3⟩ := mixS_facts bits n hn i (by omega)
    have hk := (mixK_lt (bits := bits) (i := i) (left := (mixS bits n i).1) (by omega) (by omega)).1
    simp only [mixS]
    generalize mixS bits n i = s at *
    generalize mixK bits i s.1 = k at *
    have hg : s.1.getD k 0 = s.1[k] := by rw [List.getD_eq_getElem?_getD, List.getElem?_eq_getElem hk]; rfl
    refine ⟨by simp; omega, by simp [h2], ?_⟩
    refine List.Perm.trans ?_ h3
    rw [hg, List.append_assoc]
    refine List.Perm.append_left _ ?_
    have e : s.1 = s.1.take k ++ s.1[k] :: s.1.drop (k + 1) := by
      rw [← List.drop_eq_getElem_cons hk, List.take_append_drop]
    conv => rhs; rw [e]
    rw [List.singleton_append]
    exact List.perm_middle.symm
theorem mixI_ord (n : Nat) (bits : List Int) (hn : n ≤ 256) : IsOrd (mixI n bits) n := by
  obtain ⟨h1, h2, h3⟩ := mixS_facts bits n hn n (Nat.le_refl _)
  have h0 : (mixS bits n n).1 = [] := List.length_eq_zero_iff.mp (by omega)
  rw [h0, List.append_nil] at h3
  have hnd : (nn (List.range n)).Nodup := by
    unfold nn
    rw [List.nodup_iff_pairwise_ne, List.pairwise_map]
    have := List.nodup_range (n := n)
    rw [List.nodup_iff_pairwise_ne] at this
    exact this.imp fun h e => h (by omega)
  refine ⟨h2, fun x hx => ?_, h3.nodup_iff.mpr hnd⟩
  have := h3.mem_iff.mp hx
  simp only [nn, List.mem_map, List.mem_range] at this
  obtain ⟨y, hy, rfl⟩ := this
  omega
theorem v41 (ctx : Ctx) (hC : CtxOk (pg ctx)) (h37 : H37 ctx) (h47 : H47 ctx) (n : Nat) (hn : n ≤ 8) (bits : List Int) (r1 r2 c : Bool) :
    Valid Try.prog 41 [(r1, .int .i64 n), (r2, .sl c 1 (ints bits))] [.us 1 (ints (mixI n bits))] := by
  refine valid_of_ev (G := pg ctx) (tok ctx) hC mixed Try.func41 T41 L41 (by simp [Try.ntmps41]) ⟨_, rfl, ?_⟩
  simp only [Try.ntmps41, Try.results41, initSt, initEnv]
  refine ev_seq (ev_reg (by simp; rfl) ?_)  -- region 0
  refine ev_seq (ev_reg (by simp; rfl) ?_)  -- region 1
  refine ev_seq (ev_seq (ev_reg (by simp; rfl) ?_))  -- region 2
  refine ev_block ?_  -- 0
  refine ev_loop (fun i : Nat => ({ env := [(0, V.fv r1 (.int .i64 n)), (1, V.fv r2 (.sl c 1 (ints bits))), (5, V.own 5 0 i), (6, V.own 6 0 0), (7, V.fv false (.int .i64 i))], blk := [(5, Blk.arr 1 (ints (nn (List.range i)))), (6, Blk.arr 1 [])] } : St)) (fun i => n - i) (fun i => i ≤ n) 0 rfl (by simp) (by simp [R]; omega) (fun i hi => ?_)
  refine ev_seq (ev_seq (ev_reg (by simp; rfl) ?_))  -- region 3
  refine ev_cond rfl (fun hb => ?_) (fun hb => ?_)  -- 12
  · simp at hb
    have hw1 : IntKind.i64.wrap ((i : Int) + 1) = (i + 1 : Nat) := wrap_nat (n := i + 1) (by omega)
    have hb8 : (i + 1) * 8 ≤ 140737488355328 := by omega
    refine ev_skip ?_
    refine ev_seq (ev_block ?_)  -- 1
    refine ev_reg (by simp [hb8]; rfl) ?_  -- region 5
    refine ev_reg (by simp [hw1]; rfl) ?_  -- region 4
    refine ⟨i + 1, ?_, by omega, by omega⟩
    rw [List.range_succ, nn_append]
    simp
    simp [nn, ints]
  · simp at hb
    have hin : i = n := by omega
    subst hin
    refine ev_exit ?_  -- 0
    refine ev_seq (ev_seq (ev_reg (by simp; rfl) ?_))  -- region 6
    refine ev_block ?_  -- 2
    refine ev_loop (fun j : Nat => ({ env := [(0, V.fv r1 (.int .i64 i)), (1, V.fv r2 (.sl c 1 (ints bits))), (5, V.own 5 0 (mixS bits i j).1.length), (6, V.own 6 0 (mixS bits i j).2.length), (8, V.fv false (.int .i64 j))], blk := [(5, Blk.arr 1 (ints (mixS bits i j).1)), (6, Blk.arr 1 (ints (mixS bits i j).2))] } : St)) (fun j => i - j) (fun j => j ≤ i) 0 (by simp [mixS]) (by simp) (by simp [R]; omega) (fun j hj => ?_)
    obtain ⟨f1, f2, _⟩ := mixS_facts bits i (by omega) j hj
    refine ev_seq (ev_seq (ev_reg (by simp; rfl) ?_))  -- region 7
    refine ev_cond rfl (fun hb => ?_) (fun hb => ?_)  -- 21
    · simp at hb
      have hw1 : IntKind.i64.wrap ((j : Int) + 1) = (j + 1 : Nat) := wrap_nat (n := j + 1) (by omega)
      have hnx : mixS bits i (j + 1) = ((mixS bits i j).1.take (mixK bits j (mixS bits i j).1) ++ (mixS bits i j).1.drop (mixK bits j (mixS bits i j).1 + 1), (mixS bits i j).2 ++ [(mixS bits i j).1.getD (mixK bits j (mixS bits i j).1) 0]) := rfl
      obtain ⟨k1, k2⟩ := mixK_lt (bits := bits) (i := j) (left := (mixS bits i j).1) (by omega) (by omega)
      have e37 := h37 (pickI bits j) ((mixS bits i j).1.length : Int) (by omega)
      rw [k2] at e37
      have e47 := h47 bits j
      generalize mixS bits i j = s at *
      generalize mixK bits j s.1 = k at *
      obtain ⟨l, o⟩ := s
      simp only at *
      have hg : l.getD k 0 = l[k] := by rw [List.getD_eq_getElem?_getD, List.getElem?_eq_getElem k1]; rfl
      have hw2 : IntKind.i64.wrap ((k : Int) + 1) = (k + 1 : Nat) := wrap_nat (n := k + 1) (by omega)
      have hb8 : (o.length + 1) * 8 ≤ 140737488355328 := by omega
      refine ev_skip ?_
      refine ev_seq (ev_block ?_)  -- 3
      refine ev_seq (ev_reg (by simp [e47, e37]; rfl) ?_)  -- region 9
      refine ev_seq (ev_reg (by simp [k1, hb8]; rfl) ?_)  -- region 10
      have hk2 : (k : Int) + 1 ≤ l.length := by omega
      have hk3 : k ≤ l.length := by omega
      have hk0 : (0 : Int) ≤ (k : Int) + 1 := by omega
      have hb1 : k * 8 ≤ 140737488355328 := by omega
      have hb2 : (k + (l.length - (k + 1))) * 8 ≤ 140737488355328 := by omega
      have hmin : min k l.length = k := by omega
      refine ev_drw rfl (by kernel_rfl) (by kernel_rfl) (by simp [hw2, hk0, hk2, hk3, hb1, hb2, hmin]; rfl) ?_  -- region 11
      refine ev_reg (by simp [hw1]; rfl) ?_  -- region 8
      refine ⟨j + 1, ?_, by omega, by omega⟩
      rw [hnx]
      simp [hg]
      refine ⟨hmin.symm, by rw [List.take_of_length_le (by simp)], ?_⟩
      simp [List.getElem?_eq_getElem k1]
    · simp at hb
      have hji : j = i := by omega
      subst hji
      refine ev_exit ?_  -- 2
      refine ev_seq (ev_reg (by simp; rfl) ?_)  -- region 12
      refine ev_ret ?_
      simp [mixI]
theorem rowsF_set (w : List (Bool × List Int)) (k : Nat) (p : Bool × List Int) : (rowsF w).set k (rowF p) = rowsF (w.set k p) := by simp [rowsF, List.map_set]
theorem v10 (ctx : Ctx) (hC : CtxOk (pg ctx)) (w : List (Bool × List Int)) (c : Bool) (hwl : w.length < 2^62) (nation : Int) (bits : List Int) (h39 : H39 ctx w c) (h26 : H26 ctx w c) (h40 : H40 ctx) (h37 : H37 ctx) (h20 : ctx 20 [] = some [.fv (.bool true)])
    (h41 : w.length ≤ 8 → ∀ r1 r2 c : Bool, ctx 41 [(r1, .int .i64 w.length), (r2, .sl c 1 (ints bits))] = some [.us 1 (ints (mixI w.length bits))])
    (h26b : okWishes w = true → ∀ k, k < w.length → H26 ctx (w.set k (false, mixI w.length bits)) false) (hwk : ∀ w, Wish w → okWishes w = true) (r1 r2 cb : Bool) :
    Valid Try.prog 10 [(false, .sl c 1 (rowsF w)), (r1, .int .i64 nation), (r2, .sl cb 1 (ints bits))] [.fv (.bool true)] := by
  refine valid_of_ev (G := pg ctx) (tok ctx) hC mixed Try.func10 T10 L10 (by simp [Try.ntmps10]) ⟨_, rfl, ?_⟩
  simp only [Try.ntmps10, Try.results10, initSt, initEnv]
  unfold H39 at h39
  cases hok : okWishes w with
  | false =>
    rw [hok] at h39
    refine ev_seq (ev_reg (by simp; rfl) ?_)  -- region 0
    refine ev_seq (ev_seq (ev_reg (by simp [h39]; rfl) ?_))  -- region 1
    refine ev_cond rfl (fun hb => ?_) (fun hb => by simp at hb)  -- 15
    refine ev_seq (ev_reg (by simp [h20]; rfl) ?_)  -- region 2
    refine ev_ret ?_
    simp
  | true =>
    rw [hok] at h39
    have hw := okWishes_wish hok
    have h8 := hw.few
    have h41 := h41 h8.2
    have hmo := mixI_ord w.length bits (by omega)
    have hml := hmo.len
    have e37 := h37 nation (w.length : Int) (by omega)
    have hmb := modI_bound nation w.length h8.1 (by omega)
    obtain ⟨k, hk⟩ : ∃ k : Nat, modI nation w.length = (k : Int) := ⟨(modI nation w.length).toNat, by omega⟩
    rw [hk] at e37
    have hkn : k < w.length := by omega
    have hw' := hw.set (k := k) (p := (false, mixI w.length bits)) hmo
    have h26b := h26b hok k hkn
    obtain ⟨a, hae⟩ : ∃ a, a = swapOf w.length (ringsOf w) := ⟨_, rfl⟩
    obtain ⟨b, hbe⟩ : ∃ b, b = swapOf (w.set k (false, mixI w.length bits)).length (ringsOf (w.set k (false, mixI w.length bits))) := ⟨_, rfl⟩
    have hha : Swapped w a := hae ▸ swapped hw
    have hhb : Swapped (w.set k (false, mixI w.length bits)) b := hbe ▸ swapped hw'
    have hon := honest hw hkn (p := (false, mixI w.length bits)) hmo hha hhb
    unfold H26 swapW codeW at h26 h26b
    rw [if_pos hok, if_pos hok, ← hae] at h26
    rw [if_pos (hwk _ hw'), if_pos (hwk _ hw'), ← hbe] at h26b
    have hal : a.length = w.length := hha.ord.len
    have hbl : b.length = w.length := by rw [hhb.ord.len, List.length_set]
    have hka : k < a.length := by omega
    have hkb : k < b.length := by omega
    have hxa : a[k] = ((hasN a k : Nat) : Int) ∧ hasN a k < w.length := by
      have := hha.ord.rng _ (List.getElem_mem hka)
      rw [hasN, List.getD_eq_getElem?_getD, List.getElem?_eq_getElem hka, Option.getD_some]; omega
    have hxb : b[k] = ((hasN b k : Nat) : Int) ∧ hasN b k < w.length := by
      have := hhb.ord.rng _ (List.getElem_mem hkb)
      rw [List.length_set] at this
      rw [hasN, List.getD_eq_getElem?_getD, List.getElem?_eq_getElem hkb, Option.getD_some]; omega
    clear hae hbe hha hhb
    rw [← rowsF_set] at h26b
    simp only [rowF] at h26b
    generalize mixI w.length bits = m at *
    have hlen := (hw.ord k hkn).len
    rw [rowAt_get hkn] at hlen
    have e40r : ∀ g : Nat, g < w.length → ∀ (ro r2 c : Bool), ctx 40 [(ro, .sl c 1 (ints w[k].2)), (r2, .int .i64 (g : Int))] = some [.fv (.int .i64 ((plN w k g : Nat) : Int))] := fun g hg ro r2 c => by
      rw [h40 w[k].2 g (by omega) ro r2 c, ← rowAt_get hkn, idx_idxOf (row_mem hw hkn hg)]; rfl
    have e1 := e40r _ hxa.2
    have e2 := e40r _ hxb.2
    have hxa1 := hxa.1
    have hxb1 := hxb.1
    generalize hasN a k = xa at *
    generalize hasN b k = xb at *
    have hmt : List.take m.length (ints m) = ints m := List.take_of_length_le (by simp)
    have hmt2 : List.take w.length (ints m) = ints m := List.take_of_length_le (by simp; omega)
    have htl : List.take w.length ((rowsF w).set k (.sl false 1 (ints m))) = (rowsF w).set k (.sl false 1 (ints m)) := List.take_of_length_le (by simp)
    have hb24 : w.length * 24 ≤ 140737488355328 := by omega
    have hle : (plN w k xa ≤ plN w k xb) = True := by simp [hon]
    refine ev_seq (ev_reg (by simp; rfl) ?_)  -- region 0
    refine ev_seq (ev_seq (ev_reg (by simp [h39]; rfl) ?_))  -- region 1
    refine ev_cond rfl (fun hb => by simp at hb) (fun hb => ?_)  -- 15
    refine ev_skip ?_
    refine ev_seq (ev_reg (by simp [e37]; rfl) ?_)  -- region 3
    refine ev_seq (ev_reg (by simp [hb24]; rfl) ?_)  -- region 4
    refine ev_seq (ev_reg (by simp [h41, hkn, hmt, hmt2, hml]; rfl) ?_)  -- region 5
    refine ev_seq (ev_reg (by simp [h26]; rfl) ?_)  -- region 6
    refine ev_seq (ev_reg (by simp [htl, h26b]; rfl) ?_)  -- region 7
    refine ev_seq (ev_seq (ev_reg (by simp [hal, hbl]; rfl) ?_))  -- region 8
    refine ev_cond rfl (fun hb => by simp at hb) (fun hb => ?_)  -- 60
    refine ev_skip ?_
    refine ev_seq (ev_drw rfl (by kernel_rfl) (by kernel_rfl) (by simp [hkn, rowF, hka, hkb, hxa1, hxb1, e1, e2, hle, h20]; rfl) ?_)  -- region 10
    refine ev_ret ?_
    simp
end Go.Proofs.Ytoafhoihigfllaa.E
namespace Go.Proofs.Ytoafhoihigfllaa.E
open Go Go.RowKit
set_option linter.unusedVariables false
set_option linter.unusedSimpArgs false
/-- the document's end, and the ring at a place -/
theorem ring_at {w : List (Bool × List Int)} (hw : Wish w) {D : List Bool} {rs : List (List Nat)} (hR : Reach w D rs) {j : Nat} (hj : j < rs.length) : ∃ D0 k, Reach w D0 (rs.take j) ∧ k < w.length ∧ D0.getD k false = false ∧ RingIs (pt w D0) k rs[j] := by
  obtain ⟨D', h'⟩ := hR.firsts (j + 1) hj
  obtain ⟨D0, k, h1, h2, h3, h4, _⟩ := h'.last (rs := rs.take j) (r := rs[j]) (by rw [List.take_add_one, List.getElem?_eq_getElem hj]; rfl)
  exact ⟨D0, k, h1, h2, h3, h4⟩
theorem v9 (ctx : Ctx) (hC : CtxOk (pg ctx)) (w : List (Bool × List Int)) (c : Bool) (bits : List Int) (h39 : H39 ctx w c) (h26 : H26 ctx w c) (h21 : H21 ctx w c) (h36 : H36 ctx) (h37 : H37 ctx) (h42 : H42 ctx) (h20 : ctx 20 [] = some [.fv (.bool true)])
    (h41 : w.length ≤ 8 → ∀ r1 r2 c : Bool, ctx 41 [(r1, .int .i64 w.length), (r2, .sl c 1 (ints bits))] = some [.us 1 (ints (mixI w.length bits))])
    (h17 : ∀ r1 r2 c1 c2 : Bool, ctx 17 [(r1, .sl c1 1 (ints (swapW w))), (r2, .sl c2 1 (ints (swapW w)))] = some [.fv (.bool true)])
    (h28 : okWishes w = true → ∀ (s : Nat), s < 2 ^ w.length → ∀ (r0 r1 r2 cx : Bool), ctx 28 [(r0, .sl c 1 (rowsF w)), (r1, .sl cx 1 (ints (mixI w.length bits))), (r2, .int .i64 s)] = some [.fv (.bool (betterA w (mixI w.length bits) s (memFrom s w.length 0) (List.replicate 8 false) false)), .fv (.int .i64 0)]) (r0 r1 cb : Bool) :
    Valid Try.prog 9 [(r0, .sl c 1 (rowsF w)), (r1, .sl cb 1 (ints bits))] [.fv (.bool true)] := by
  refine valid_of_ev (G := pg ctx) (tok ctx) hC mixed Try.func9 T9 L9 (by simp [Try.ntmps9]) ⟨_, rfl, ?_⟩
  simp only [Try.ntmps9, Try.results9, initSt, initEnv]
  unfold H39 at h39
  cases hok : okWishes w with
  | false =>
    rw [hok] at h39
    refine ev_seq (ev_reg (by simp; rfl) ?_)  -- region 0
    refine ev_seq (ev_seq (ev_reg (by simp [h39]; rfl) ?_))  -- region 1
    refine ev_cond rfl (fun hb => ?_) (fun hb => by simp at hb)  -- 21
    refine ev_seq (ev_reg (by simp [h20]; rfl) ?_)  -- region 2
    refine ev_ret ?_
    simp
  | true =>
    rw [hok] at h39
    have hw := okWishes_wish hok
    have h8 := hw.few
    have h41 := h41 h8.2
    have h28 := h28 hok
    unfold H26 swapW codeW at h26
    unfold H21 ringsW codeW at h21
    unfold swapW at h17
    rw [if_pos hok, if_pos hok] at h26 h21
    rw [if_pos hok] at h17
    have ho := mixI_ord w.length bits (by omega)
    obtain ⟨D, hR, hall⟩ := reach_all hw
    have hnx := swap_next hw hR
    have hgoodf := hR.good_of hw hnx
    have hsw : Swapped w (swapOf w.length (ringsOf w)) := swapped hw
    have hmemD := hR.mem hw
    obtain ⟨_, hrl8⟩ := rings_small hw
    have hsome : (ringsOf w).length ≤ w.length := by
      obtain ⟨f, d, h⟩ := rd_end hw _ _ _ _ (rd_first hw)
      have := h.some; omega
    generalize ringsOf w = rs at *
    generalize swapOf w.length rs = x at *
    generalize mixI w.length bits = o at *
    have hxl := hsw.ord.len
    have hol := ho.len
    have htx : List.take x.length (ints x) = ints x := List.take_of_length_le (by simp)
    have hto : List.take o.length (ints o) = ints o := List.take_of_length_le (by simp)
    obtain ⟨hp1, hp2, hp3⟩ := pow_small h8.2
    have hminn : min w.length IntKind.i64.bits = w.length := min_bits (by omega)
    have hpwn : IntKind.i64.wrap ((2 ^ w.length : Nat) : Int) = ((2 ^ w.length : Nat) : Int) := wrap_nat (by omega)
    have hpsn : IntKind.i64.wrap (((2 ^ w.length : Nat) : Int) - 1) = ((2 ^ w.length : Nat) : Int) - 1 := wrap_id (by omega) (by omega)
    have hw8 : IntKind.i64.wrap ((w.length : Int) - 1) = (w.length : Int) - 1 := wrap_id (by omega) (by omega)
    have hgt : (w.length < rs.length) = False := by simp; omega
    refine ev_seq (ev_reg (by simp; rfl) ?_)  -- region 0
    refine ev_seq (ev_seq (ev_reg (by simp [h39]; rfl) ?_))  -- region 1
    refine ev_cond rfl (fun hb => by simp at hb) (fun hb => ?_)  -- 21
    refine ev_skip ?_
    refine ev_seq (ev_reg (by simp [h26]; rfl) ?_)  -- region 3
    refine ev_seq (ev_reg (by simp [h21]; rfl) ?_)  -- region 4
    refine ev_seq (ev_seq (ev_reg (by simp [hxl, hgt]; rfl) ?_))  -- region 5
    refine ev_cond rfl (fun hb => by simp at hb) (fun hb => ?_)  -- 52
    refine ev_skip ?_
    refine ev_seq (ev_reg (by simp [h41]; rfl) ?_)  -- region 7
    refine ev_seq (ev_reg (by simp; rfl) ?_)  -- region 8
    refine ev_seq (ev_seq (ev_reg (by simp; rfl) ?_))  -- region 9
    refine ev_block ?_  -- 0
    refine ev_loop (fun j : Nat => ({ env := [(0, V.fv r0 (.sl c 1 (rowsF w))), (5, V.own 5 0 x.length), (7, V.own 7 0 rs.length), (9, V.own 9 0 o.length), (10, V.fv false (.int .i64 (bitsOf (rs.take j).flatten))), (11, V.fv false (.int .i64 j))], blk := [(5, Blk.arr 1 (ints x)), (7, Blk.arr 1 (rs.map ringF)), (9, Blk.arr 1 (ints o))] } : St)) (fun j => rs.length - j)
      (fun j => j ≤ rs.length ∧ ∀ r ∈ rs.take j, ∀ y ∈ r, hasN o y = hasN x y) 0 (by simp [hxl, hol, bitsOf]) (by simp) (by simp [R]; omega) (fun j hj => ?_)
    obtain ⟨hj, hn⟩ := hj
    refine ev_seq (ev_seq (ev_reg (by simp; rfl) ?_))  -- region 10
    refine ev_cond rfl (fun hb => ?_) (fun hb => ?_)  -- 60
    · simp at hb
      have hw1 : IntKind.i64.wrap ((j : Int) + 1) = (j + 1 : Nat) := wrap_nat (n := j + 1) (by omega)
      obtain ⟨D0, k0, hR0, hk0, hd0, hri⟩ := ring_at hw hR hb
      have hm0 := hR0.mem hw
      have hnr := hnx rs[j] (List.getElem_mem _)
      have htk : rs.take (j + 1) = rs.take j ++ [rs[j]] := by rw [List.take_add_one, List.getElem?_eq_getElem hb]; rfl
      obtain ⟨r, hr⟩ : ∃ r, rs[j] = r := ⟨_, rfl⟩
      rw [hr] at hri hnr htk
      obtain ⟨q1, q2, q3, q4⟩ := ring_in hw hk0 hd0 hri
      have hg0 := hR0.good_of hw (x := hasN x) (fun s hs => hnx s (List.mem_of_mem_take hs))
      have hbet := fun hsame hun => ring_better hw ho hg0 hk0 hd0 hri (fun y hy => by rw [hnr y hy, ring_next hri q4 hy]) hsame hun
      have hsame : ∀ k, D0.getD k false = true → hasN o k = hasN x k := fun k hk => by
        obtain ⟨s, hs, hks⟩ := List.mem_flatten.mp ((hm0 k).mp hk)
        exact hn s hs k hks
      have hfl8 : ∀ y ∈ (rs.take j).flatten, y < 8 := fun y hy => by
        have := (hm0 y).mpr hy
        have := (hg0.facts hw).lt y this
        omega
      refine ev_skip ?_
      refine ev_seq (ev_block ?_)  -- 1
      refine ev_seq (ev_reg (by simp; rfl) ?_)  -- region 12
      refine ev_seq (ev_seq (ev_reg (by simp; rfl) ?_))  -- region 13
      refine ev_block ?_  -- 2
      refine ev_loop (fun q : Nat => ({ env := [(0, V.fv r0 (.sl c 1 (rowsF w))), (5, V.own 5 0 x.length), (7, V.own 7 0 rs.length), (9, V.own 9 0 o.length), (10, V.fv false (.int .i64 (bitsOf ((rs.take j).flatten ++ r.take q)))), (11, V.fv false (.int .i64 j)), (12, V.fv false (.int .i64 (bitsOf (r.take q)))), (13, V.fv false (.bool ((r.take q).any fun y => (hasN o y : Int) != (hasN x y : Int)))), (14, V.fv false (.int .i64 q))], blk := [(5, Blk.arr 1 (ints x)), (7, Blk.arr 1 (rs.map ringF)), (9, Blk.arr 1 (ints o))] } : St)) (fun q => r.length - q)
        (fun q => q ≤ r.length) 0 (by simp [bitsOf]) (by simp) (by simp [R]; omega) (fun q hq => ?_)
      refine ev_seq (ev_seq (ev_reg (by simp [hb, hr, ringF]; rfl) ?_))  -- region 14
      refine ev_cond rfl (fun hc => ?_) (fun hc => ?_)  -- 69
      · simp at hc
        have hw2 : IntKind.i64.wrap ((q : Int) + 1) = (q + 1 : Nat) := wrap_nat (n := q + 1) (by omega)
        obtain ⟨y, hy⟩ : ∃ y, r[q] = y := ⟨_, rfl⟩
        have hyr : y ∈ r := hy ▸ List.getElem_mem _
        obtain ⟨hyn, hyd⟩ := q3 y hyr
        have hy8 : y < 8 := by omega
        have htq : r.take (q + 1) = r.take q ++ [y] := by rw [List.take_add_one, List.getElem?_eq_getElem hc, hy]; rfl
        have hyt : y ∉ (rs.take j).flatten ++ r.take q := fun h => by
          rcases List.mem_append.mp h with h | h
          · have := (hm0 y).mpr h
            rw [hyd] at this; simp at this
          · obtain ⟨i, hi, e⟩ := List.getElem_of_mem h
            rw [List.getElem_take] at e
            simp at hi
            have := (List.getElem_inj (h₀ := by omega) (h₁ := hc) q4).mp (e.trans hy.symm)
            omega
        have hidx : r.idxOf y = q := by
          rw [← hy, List.idxOf, List.findIdx_eq hc]
          refine ⟨by simp, fun i hi => ?_⟩
          have := q4
          rw [List.nodup_iff_pairwise_ne, List.pairwise_iff_getElem] at this
          simpa using this i q (by omega) hc hi
        have hz : (q + 1) % r.length < r.length := Nat.mod_lt _ q1
        have hxy := hnr y hyr
        rw [hidx, List.getD_eq_getElem?_getD, List.getElem?_eq_getElem hz, Option.getD_some] at hxy
        obtain ⟨hyx, ex, hxn⟩ := hasN_get hsw.ord hyn
        obtain ⟨hyo, eo, hon⟩ := hasN_get ho hyn
        have e36 : ∀ r1 r2 r3 : Bool, ctx 36 [(r1, .int .i64 y), (r2, .int .i64 0), (r3, .int .i64 ((w.length : Int) - 1))] = some [.fv (.bool true)] := fun r1 r2 r3 => by
          rw [h36]
          have h1 : decide ((0 : Int) ≤ y) = true := decide_eq_true (by omega)
          have h2 : decide ((y : Int) ≤ (w.length : Int) - 1) = true := decide_eq_true (by omega)
          rw [h1, h2]; rfl
        have hb1 : ∀ z ∈ (rs.take j).flatten ++ r.take q, z < 8 := fun z hz => by
          rcases List.mem_append.mp hz with h | h
          · exact hfl8 z h
          · have := q3 z (List.mem_of_mem_take h); omega
        have hb2 : ∀ z ∈ r.take q, z < 8 := fun z hz => hb1 z (List.mem_append_right _ hz)
        have hmt := bitsOf_lt _ hb1
        have hst := bitsOf_lt _ hb2
        have e42 := h42 (bitsOf ((rs.take j).flatten ++ r.take q)) y (by omega) hy8
        rw [inS_bitsOf, decide_eq_false hyt] at e42
        have e37 := h37 ((q + 1 : Nat) : Int) (r.length : Int) (by omega)
        rw [modI_nat] at e37
        have hsn : bitsOf (r.take (q + 1)) = bitsOf (r.take q) ||| 2 ^ y := by rw [htq, bitsOf_snoc]
        have hmn : bitsOf ((rs.take j).flatten ++ r.take (q + 1)) = bitsOf ((rs.take j).flatten ++ r.take q) ||| 2 ^ y := by rw [htq, ← List.append_assoc, bitsOf_snoc]
        have hun : ((r.take (q + 1)).any fun y => (hasN o y : Int) != (hasN x y : Int)) = (((r.take q).any fun y => (hasN o y : Int) != (hasN x y : Int)) || ((hasN o y : Int) != (hasN x y : Int))) := by rw [htq]; simp
        have hp256 : 2 ^ y < 256 := Nat.lt_of_le_of_lt (Nat.pow_le_pow_right (by omega) (show y ≤ 7 by omega)) (by decide)
        have hminy : min y IntKind.i64.bits = y := min_bits (by omega)
        have hpow : (2 : Int) ^ y = ((2 ^ y : Nat) : Int) := by simp
        have hpw : IntKind.i64.wrap ((2 ^ y : Nat) : Int) = ((2 ^ y : Nat) : Int) := wrap_nat (by omega)
        have hor1 := or_nat (bitsOf (r.take q)) (2 ^ y) (by omega) (by omega) (by have := Nat.or_lt_two_pow (n := 8) hst hp256; omega)
        have hor2 := or_nat (bitsOf ((rs.take j).flatten ++ r.take q)) (2 ^ y) (by omega) (by omega) (by have := Nat.or_lt_two_pow (n := 8) hmt hp256; omega)
        rw [← hsn] at hor1
        rw [← hmn] at hor2
        generalize hA : bitsOf (r.take (q + 1)) = st2 at *
        generalize hB : bitsOf ((rs.take j).flatten ++ r.take (q + 1)) = mt2 at *
        generalize bitsOf (r.take q) = st at *
        generalize bitsOf ((rs.take j).flatten ++ r.take q) = mt at *
        generalize ((r.take q).any fun y => (hasN o y : Int) != (hasN x y : Int)) = un at *
        generalize hU : ((r.take (q + 1)).any fun y => (hasN o y : Int) != (hasN x y : Int)) = un2 at *
        generalize (q + 1) % r.length = z at *
        generalize hasN x y = xy at *
        generalize hasN o y = oy at *
        generalize 2 ^ y = p at *
        have hrz : r[z] = xy := hxy.symm
        simp only [Int.natCast_add, Int.natCast_one] at e37 hw2
        refine ev_skip ?_
        refine ev_seq (ev_block ?_)  -- 3
        refine ev_seq (ev_reg (by simp [hb, hr, ringF, hc, hy]; rfl) ?_)  -- region 16
        refine ev_seq (ev_seq (ev_drw rfl (by kernel_rfl) (by kernel_rfl) (by simp [hb, hr, ringF, hc, hw8, e36, e42, hyx, ex, hw2, e37, hz, hrz]; rfl) ?_))  -- region 17
        refine ev_cond rfl (fun hb => by simp at hb) (fun hb => ?_)  -- 110
        refine ev_skip ?_
        refine ev_seq (ev_drw rfl (by kernel_rfl) (by kernel_rfl) (by simp [fshift, hminy, hpow, hpw, hor1, hor2]; rfl) ?_)  -- region 19
        refine ev_drw (σ' := { env := [(0, V.fv r0 (.sl c 1 (rowsF w))), (5, V.own 5 0 x.length), (7, V.own 7 0 rs.length), (9, V.own 9 0 o.length), (10, V.fv false (.int .i64 mt2)), (11, V.fv false (.int .i64 j)), (12, V.fv false (.int .i64 st2)), (13, V.fv false (.bool (un || ((oy : Int) != (xy : Int))))), (14, V.fv false (.int .i64 q))], blk := [(5, Blk.arr 1 (ints x)), (7, Blk.arr 1 (rs.map ringF)), (9, Blk.arr 1 (ints o))] }) rfl (by kernel_rfl) (by kernel_rfl) (by clear hun; cases un <;> simp [hyx, ex, hyo, eo]) ?_  -- region 20
        refine ev_reg (by simp [hw2]; rfl) ?_  -- region 15
        refine ⟨q + 1, ?_, by omega, by omega⟩
        simp only [hA, hB, hU, hun]
        simp
      · simp at hc
        have hqr : q = r.length := by omega
        subst hqr
        rw [List.take_length]
        refine ev_exit ?_  -- 2
        refine ev_seq (ev_reg (by simp; rfl) ?_)  -- region 21
        cases hun : (r.any fun y => (hasN o y : Int) != (hasN x y : Int)) with
        | true =>
          have hbt := hbet hsame (by
            obtain ⟨y, hy, hne⟩ := List.any_eq_true.mp hun
            exact ⟨y, hy, fun e => by rw [e] at hne; simp at hne⟩)
          have e28 := h28 (bitsOf r) (by
            exact bitsOf_lt' w.length r (fun y hy => (q3 y hy).1))
          rw [hbt] at e28
          refine ev_cond rfl (fun hb => ?_) (fun hb => by simp at hb)  -- 131
          refine ev_seq (ev_reg (by simp [hto, e28]; rfl) ?_)  -- region 22
          refine ev_seq (ev_reg (by simp [h20]; rfl) ?_)  -- region 23
          refine ev_ret ?_
          simp
        | false =>
          refine ev_cond rfl (fun hb => by simp at hb) (fun hb => ?_)  -- 131
          refine ev_skip ?_
          refine ev_reg (by simp [hw1]; rfl) ?_  -- region 11
          refine ⟨j + 1, ?_, ⟨by omega, fun s hs y hy => ?_⟩, by omega⟩
          · rw [htk]; simp
          · rw [htk] at hs
            rcases List.mem_append.mp hs with hs | hs
            · exact hn s hs y hy
            · simp only [List.mem_singleton] at hs
              subst hs
              have := List.any_eq_false.mp hun y hy
              simp at this
              omega
    · simp at hb
      have hjm : j = rs.length := by omega
      subst hjm
      rw [List.take_length] at hn ⊢
      have hox : o = x := ord_ext hsw.ord ho (fun k hk => by
        obtain ⟨s, hs, hks⟩ := List.mem_flatten.mp ((hmemD k).mp (hall k hk))
        exact hn s hs k hks)
      have hbits : bitsOf rs.flatten = 2 ^ w.length - 1 := bits_all (fun y => ⟨fun h => (hgoodf.facts hw).lt y ((hmemD y).mpr h), fun h => (hmemD y).mp (hall y h)⟩)
      have e28 := h28 (2 ^ w.length - 1) (by omega)
      rw [hox, no_better hw hsw] at e28
      rw [hbits, hox]
      have hcast : ((2 ^ w.length - 1 : Nat) : Int) = ((2 ^ w.length : Nat) : Int) - 1 := by omega
      rw [hcast] at e28 ⊢
      generalize 2 ^ w.length = p at *
      refine ev_exit ?_  -- 0
      refine ev_seq (ev_reg (by simp [htx, fshift, hminn, hp1, hpwn, hpsn, e28]; rfl) ?_)  -- region 24
      refine ev_seq (ev_reg (by simp [htx, fshift, hminn, hp1, hpwn, hpsn, h17, h20]; rfl) ?_)  -- region 25
      refine ev_ret ?_
      simp
end Go.Proofs.Ytoafhoihigfllaa.E
