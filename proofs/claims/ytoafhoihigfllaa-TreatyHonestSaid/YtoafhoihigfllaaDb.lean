/-
  The chapter of the treaty: other wishes, as numbers choose them; the law that nobody gets more by them, walked. Conditions: none.
-/
import Derived.Test.YtoafhoihigfllaaCb
import Derived.Test.YtoafhoihigfllaaDa
namespace Go.Proofs.Ytoafhoihigfllaa.E
open Go Go.RowKit
set_option linter.unusedVariables false
set_option linter.unusedSimpArgs false
def pickI (bits : List Int) (i : Nat) : Int := if bits.length = 0 then 0 else bits.getD (i % bits.length) 0
theorem v47 (ctx : Ctx) (hC : CtxOk (pg ctx)) (h37 : H37 ctx) (bits : List Int) (i : Nat) (r1 r2 c : Bool) :
    Valid Try.prog 47 [(r1, .sl c 1 (ints bits)), (r2, .int .i64 i)] [.fv (.int .i64 (pickI bits i))] := by
  refine valid_of_ev (G := pg ctx) (tok ctx) hC mixed Try.func47 T47 L47 (by simp [Try.ntmps47]) ⟨_, rfl, ?_⟩
  simp only [Try.ntmps47, Try.results47, initSt, initEnv]
  refine ev_seq (ev_reg (by simp; rfl) ?_)  -- region 0
  obtain ⟨E, hE⟩ : ∃ E, E = ((bits.length : Int) == 0) := ⟨_, rfl⟩
  by_cases h0 : bits.length = 0
  · refine ev_seq (ev_seq (ev_reg (by simp; rfl) ?_))  -- region 1
    refine ev_cond rfl (fun hb => ?_) (fun hb => by simp at hb; simp [hb] at h0)  -- 7
    refine ev_seq (ev_reg (by simp; rfl) ?_)  -- region 2
    refine ev_ret ?_
    simp [pickI, h0]
  · have e37 := h37 i bits.length (by omega)
    rw [modI_nat] at e37
    have hlt : i % bits.length < bits.length := Nat.mod_lt _ (by omega)
    have hp : pickI bits i = bits[i % bits.length] := by rw [pickI, if_neg h0, List.getD_eq_getElem?_getD, List.getElem?_eq_getElem hlt]; rfl
    rw [hp]
    generalize i % bits.length = k at *
    refine ev_seq (ev_seq (ev_reg (by simp; rfl) ?_))  -- region 1
    refine ev_cond rfl (fun hb => by simp at hb; simp [hb] at h0) (fun hb => ?_)  -- 7
    refine ev_skip ?_
    refine ev_seq (ev_reg (by simp [e37, hlt]; rfl) ?_)  -- region 3
    refine ev_ret ?_
    simp
def H47 (ctx : Ctx) : Prop := ∀ (bits : List Int) (i : Nat) (r1 r2 c : Bool), ctx 47 [(r1, .sl c 1 (ints bits)), (r2, .int .i64 i)] = some [.fv (.int .i64 (pickI bits i))]
def mixK (bits : List Int) (i : Nat) (left : List Int) : Nat := (modI (pickI bits i) left.length).toNat
/-- what is left, and what has been chosen -/
def mixS (bits : List Int) (n : Nat) : Nat → List Int × List Int
  | 0 => (nn (List.range n), [])
  | i+1 => ((mixS bits n i).1.take (mixK bits i (mixS bits n i).1) ++ (mixS bits n i).1.drop (mixK bits i (mixS bits n i).1 + 1), (mixS bits n i).2 ++ [(mixS bits n i).1.getD (mixK bits i (mixS bits n i).1) 0])
def mixI (n : Nat) (bits : List Int) : List Int := (mixS bits n n).2
theorem mixK_lt {bits : List Int} {i : Nat} {left : List Int} (h : 0 < left.length) (h2 : left.length ≤ 256) : mixK bits i left < left.length ∧ modI (pickI bits i) left.length = ((mixK bits i left : Nat) : Int) := by
  have := modI_bound (pickI bits i) left.length h h2
  unfold mixK
  omega
theorem mixS_facts (bits : List Int) (n : Nat) (hn : n ≤ 256) : ∀ i, i ≤ n → (mixS bits n i).1.length = n - i ∧ (mixS bits n i).2.length = i ∧ ((mixS bits n i).2 ++ (mixS bits n i).1).Perm (nn (List.range n))
  | 0, _ => ⟨by simp [mixS], by simp [mixS], by simp [mixS]⟩
  | i+1, h => by
    obtain ⟨h1, h2, h3⟩ := mixS_facts bits n hn i (by omega)
    have hk := (mixK_lt (bits := bits) (i := i) (left := (mixS bits n i).1) (by omega) (by omega)).1
    simp only [mixS]
    generalize mixS bits n i = s at *
    generalize mixK bits i s.1 = k at *
    have hg : s.1.getD k 0 = s.1[k] := by rw [List.getD_eq_getElem?_getD, List.getElem?_eq_getElem hk]; rfl
    refine ⟨by simp; omega, by simp [h2], ?_⟩
    refine List.Perm.trans ?_ h3
    rw [hg, List.append_assoc]
    refine List.Perm.append_left _ ?_
    have e : s.1 = s.1.take k ++ s.1[k] :: s.1.drop (k + 1) := by
      rw [← List.drop_eq_getElem_cons hk, List.take_append_drop]
    conv => rhs; rw [e]
    rw [List.singleton_append]
    exact List.perm_middle.symm
theorem mixI_ord (n : Nat) (bits : List Int) (hn : n ≤ 256) : IsOrd (mixI n bits) n := by
  obtain ⟨h1, h2, h3⟩ := mixS_facts bits n hn n (Nat.le_refl _)
  have h0 : (mixS bits n n).1 = [] := List.length_eq_zero_iff.mp (by omega)
  rw [h0, List.append_nil] at h3
  have hnd : (nn (List.range n)).Nodup := by
    unfold nn
    rw [List.nodup_iff_pairwise_ne, List.pairwise_map]
    have := List.nodup_range (n := n)
    rw [List.nodup_iff_pairwise_ne] at this
    exact this.imp fun h e => h (by omega)
  refine ⟨h2, fun x hx => ?_, h3.nodup_iff.mpr hnd⟩
  have := h3.mem_iff.mp hx
  simp only [nn, List.mem_map, List.mem_range] at this
  obtain ⟨y, hy, rfl⟩ := this
  omega
theorem v41 (ctx : Ctx) (hC : CtxOk (pg ctx)) (h37 : H37 ctx) (h47 : H47 ctx) (n : Nat) (hn : n ≤ 8) (bits : List Int) (r1 r2 c : Bool) :
    Valid Try.prog 41 [(r1, .int .i64 n), (r2, .sl c 1 (ints bits))] [.us 1 (ints (mixI n bits))] := by
  refine valid_of_ev (G := pg ctx) (tok ctx) hC mixed Try.func41 T41 L41 (by simp [Try.ntmps41]) ⟨_, rfl, ?_⟩
  simp only [Try.ntmps41, Try.results41, initSt, initEnv]
  refine ev_seq (ev_reg (by simp; rfl) ?_)  -- region 0
  refine ev_seq (ev_reg (by simp; rfl) ?_)  -- region 1
  refine ev_seq (ev_seq (ev_reg (by simp; rfl) ?_))  -- region 2
  refine ev_block ?_  -- 0
  refine ev_loop (fun i : Nat => ({ env := [(0, V.fv r1 (.int .i64 n)), (1, V.fv r2 (.sl c 1 (ints bits))), (5, V.own 5 0 i), (6, V.own 6 0 0), (7, V.fv false (.int .i64 i))], blk := [(5, Blk.arr 1 (ints (nn (List.range i)))), (6, Blk.arr 1 [])] } : St)) (fun i => n - i) (fun i => i ≤ n) 0 rfl (by simp) (by simp [R]; omega) (fun i hi => ?_)
  refine ev_seq (ev_seq (ev_reg (by simp; rfl) ?_))  -- region 3
  refine ev_cond rfl (fun hb => ?_) (fun hb => ?_)  -- 12
  · simp at hb
    have hw1 : IntKind.i64.wrap ((i : Int) + 1) = (i + 1 : Nat) := wrap_nat (n := i + 1) (by omega)
    have hb8 : (i + 1) * 8 ≤ 140737488355328 := by omega
    refine ev_skip ?_
    refine ev_seq (ev_block ?_)  -- 1
    refine ev_reg (by simp [hb8]; rfl) ?_  -- region 5
    refine ev_reg (by simp [hw1]; rfl) ?_  -- region 4
    refine ⟨i + 1, ?_, by omega, by omega⟩
    rw [List.range_succ, nn_append]
    simp
    simp [nn, ints]
  · simp at hb
    have hin : i = n := by omega
    subst hin
    refine ev_exit ?_  -- 0
    refine ev_seq (ev_seq (ev_reg (by simp; rfl) ?_))  -- region 6
    refine ev_block ?_  -- 2
    refine ev_loop (fun j : Nat => ({ env := [(0, V.fv r1 (.int .i64 i)), (1, V.fv r2 (.sl c 1 (ints bits))), (5, V.own 5 0 (mixS bits i j).1.length), (6, V.own 6 0 (mixS bits i j).2.length), (8, V.fv false (.int .i64 j))], blk := [(5, Blk.arr 1 (ints (mixS bits i j).1)), (6, Blk.arr 1 (ints (mixS bits i j).2))] } : St)) (fun j => i - j) (fun j => j ≤ i) 0 (by simp [mixS]) (by simp) (by simp [R]; omega) (fun j hj => ?_)
    obtain ⟨f1, f2, _⟩ := mixS_facts bits i (by omega) j hj
    refine ev_seq (ev_seq (ev_reg (by simp; rfl) ?_))  -- region 7
    refine ev_cond rfl (fun hb => ?_) (fun hb => ?_)  -- 21
    · simp at hb
      have hw1 : IntKind.i64.wrap ((j : Int) + 1) = (j + 1 : Nat) := wrap_nat (n := j + 1) (by omega)
      have hnx : mixS bits i (j + 1) = ((mixS bits i j).1.take (mixK bits j (mixS bits i j).1) ++ (mixS bits i j).1.drop (mixK bits j (mixS bits i j).1 + 1), (mixS bits i j).2 ++ [(mixS bits i j).1.getD (mixK bits j (mixS bits i j).1) 0]) := rfl
      obtain ⟨k1, k2⟩ := mixK_lt (bits := bits) (i := j) (left := (mixS bits i j).1) (by omega) (by omega)
      have e37 := h37 (pickI bits j) ((mixS bits i j).1.length : Int) (by omega)
      rw [k2] at e37
      have e47 := h47 bits j
      generalize mixS bits i j = s at *
      generalize mixK bits j s.1 = k at *
      obtain ⟨l, o⟩ := s
      simp only at *
      have hg : l.getD k 0 = l[k] := by rw [List.getD_eq_getElem?_getD, List.getElem?_eq_getElem k1]; rfl
      have hw2 : IntKind.i64.wrap ((k : Int) + 1) = (k + 1 : Nat) := wrap_nat (n := k + 1) (by omega)
      have hb8 : (o.length + 1) * 8 ≤ 140737488355328 := by omega
      refine ev_skip ?_
      refine ev_seq (ev_block ?_)  -- 3
      refine ev_seq (ev_reg (by simp [e47, e37]; rfl) ?_)  -- region 9
      refine ev_seq (ev_reg (by simp [k1, hb8]; rfl) ?_)  -- region 10
      have hk2 : (k : Int) + 1 ≤ l.length := by omega
      have hk3 : k ≤ l.length := by omega
      have hk0 : (0 : Int) ≤ (k : Int) + 1 := by omega
      have hb1 : k * 8 ≤ 140737488355328 := by omega
      have hb2 : (k + (l.length - (k + 1))) * 8 ≤ 140737488355328 := by omega
      have hmin : min k l.length = k := by omega
      refine ev_drw rfl (by kernel_rfl) (by kernel_rfl) (by simp [hw2, hk0, hk2, hk3, hb1, hb2, hmin]; rfl) ?_  -- region 11
      refine ev_reg (by simp [hw1]; rfl) ?_  -- region 8
      refine ⟨j + 1, ?_, by omega, by omega⟩
      rw [hnx]
      simp [hg]
      refine ⟨hmin.symm, by rw [List.take_of_length_le (by simp)], ?_⟩
      simp [List.getElem?_eq_getElem k1]
    · simp at hb
      have hji : j = i := by omega
      subst hji
      refine ev_exit ?_  -- 2
      refine ev_seq (ev_reg (by simp; rfl) ?_)  -- region 12
      refine ev_ret ?_
      simp [mixI]
theorem rowsF_set (w : List (Bool × List Int)) (k : Nat) (p : Bool × List Int) : (rowsF w).set k (rowF p) = rowsF (w.set k p) := by simp [rowsF, List.map_set]
theorem v10 (ctx : Ctx) (hC : CtxOk (pg ctx)) (w : List (Bool × List Int)) (c : Bool) (hwl : w.length < 2^62) (nation : Int) (bits : List Int) (h39 : H39 ctx w c) (h26 : H26 ctx w c) (h40 : H40 ctx) (h37 : H37 ctx) (h20 : ctx 20 [] = some [.fv (.bool true)])
    (h41 : w.length ≤ 8 → ∀ r1 r2 c : Bool, ctx 41 [(r1, .int .i64 w.length), (r2, .sl c 1 (ints bits))] = some [.us 1 (ints (mixI w.length bits))])
    (h26b : okWishes w = true → ∀ k, k < w.length → H26 ctx (w.set k (false, mixI w.length bits)) false) (hwk : ∀ w, Wish w → okWishes w = true) (r1 r2 cb : Bool) :
    Valid Try.prog 10 [(false, .sl c 1 (rowsF w)), (r1, .int .i64 nation), (r2, .sl cb 1 (ints bits))] [.fv (.bool true)] := by
  refine valid_of_ev (G := pg ctx) (tok ctx) hC mixed Try.func10 T10 L10 (by simp [Try.ntmps10]) ⟨_, rfl, ?_⟩
  simp only [Try.ntmps10, Try.results10, initSt, initEnv]
  unfold H39 at h39
  cases hok : okWishes w with
  | false =>
    rw [hok] at h39
    refine ev_seq (ev_reg (by simp; rfl) ?_)  -- region 0
    refine ev_seq (ev_seq (ev_reg (by simp [h39]; rfl) ?_))  -- region 1
    refine ev_cond rfl (fun hb => ?_) (fun hb => by simp at hb)  -- 15
    refine ev_seq (ev_reg (by simp [h20]; rfl) ?_)  -- region 2
    refine ev_ret ?_
    simp
  | true =>
    rw [hok] at h39
    have hw := okWishes_wish hok
    have h8 := hw.few
    have h41 := h41 h8.2
    have hmo := mixI_ord w.length bits (by omega)
    have hml := hmo.len
    have e37 := h37 nation (w.length : Int) (by omega)
    have hmb := modI_bound nation w.length h8.1 (by omega)
    obtain ⟨k, hk⟩ : ∃ k : Nat, modI nation w.length = (k : Int) := ⟨(modI nation w.length).toNat, by omega⟩
    rw [hk] at e37
    have hkn : k < w.length := by omega
    have hw' := hw.set (k := k) (p := (false, mixI w.length bits)) hmo
    have h26b := h26b hok k hkn
    obtain ⟨a, hae⟩ : ∃ a, a = swapOf w.length (ringsOf w) := ⟨_, rfl⟩
    obtain ⟨b, hbe⟩ : ∃ b, b = swapOf (w.set k (false, mixI w.length bits)).length (ringsOf (w.set k (false, mixI w.length bits))) := ⟨_, rfl⟩
    have hha : Swapped w a := hae ▸ swapped hw
    have hhb : Swapped (w.set k (false, mixI w.length bits)) b := hbe ▸ swapped hw'
    have hon := honest hw hkn (p := (false, mixI w.length bits)) hmo hha hhb
    unfold H26 swapW codeW at h26 h26b
    rw [if_pos hok, if_pos hok, ← hae] at h26
    rw [if_pos (hwk _ hw'), if_pos (hwk _ hw'), ← hbe] at h26b
    have hal : a.length = w.length := hha.ord.len
    have hbl : b.length = w.length := by rw [hhb.ord.len, List.length_set]
    have hka : k < a.length := by omega
    have hkb : k < b.length := by omega
    have hxa : a[k] = ((hasN a k : Nat) : Int) ∧ hasN a k < w.length := by
      have := hha.ord.rng _ (List.getElem_mem hka)
      rw [hasN, List.getD_eq_getElem?_getD, List.getElem?_eq_getElem hka, Option.getD_some]; omega
    have hxb : b[k] = ((hasN b k : Nat) : Int) ∧ hasN b k < w.length := by
      have := hhb.ord.rng _ (List.getElem_mem hkb)
      rw [List.length_set] at this
      rw [hasN, List.getD_eq_getElem?_getD, List.getElem?_eq_getElem hkb, Option.getD_some]; omega
    clear hae hbe hha hhb
    rw [← rowsF_set] at h26b
    simp only [rowF] at h26b
    generalize mixI w.length bits = m at *
    have hlen := (hw.ord k hkn).len
    rw [rowAt_get hkn] at hlen
    have e40r : ∀ g : Nat, g < w.length → ∀ (ro r2 c : Bool), ctx 40 [(ro, .sl c 1 (ints w[k].2)), (r2, .int .i64 (g : Int))] = some [.fv (.int .i64 ((plN w k g : Nat) : Int))] := fun g hg ro r2 c => by
      rw [h40 w[k].2 g (by omega) ro r2 c, ← rowAt_get hkn, idx_idxOf (row_mem hw hkn hg)]; rfl
    have e1 := e40r _ hxa.2
    have e2 := e40r _ hxb.2
    have hxa1 := hxa.1
    have hxb1 := hxb.1
    generalize hasN a k = xa at *
    generalize hasN b k = xb at *
    have hmt : List.take m.length (ints m) = ints m := List.take_of_length_le (by simp)
    have hmt2 : List.take w.length (ints m) = ints m := List.take_of_length_le (by simp; omega)
    have htl : List.take w.length ((rowsF w).set k (.sl false 1 (ints m))) = (rowsF w).set k (.sl false 1 (ints m)) := List.take_of_length_le (by simp)
    have hb24 : w.length * 24 ≤ 140737488355328 := by omega
    have hle : (plN w k xa ≤ plN w k xb) = True := by simp [hon]
    refine ev_seq (ev_reg (by simp; rfl) ?_)  -- region 0
    refine ev_seq (ev_seq (ev_reg (by simp [h39]; rfl) ?_))  -- region 1
    refine ev_cond rfl (fun hb => by simp at hb) (fun hb => ?_)  -- 15
    refine ev_skip ?_
    refine ev_seq (ev_reg (by simp [e37]; rfl) ?_)  -- region 3
    refine ev_seq (ev_reg (by simp [hb24]; rfl) ?_)  -- region 4
    refine ev_seq (ev_reg (by simp [h41, hkn, hmt, hmt2, hml]; rfl) ?_)  -- region 5
    refine ev_seq (ev_reg (by simp [h26]; rfl) ?_)  -- region 6
    refine ev_seq (ev_reg (by simp [htl, h26b]; rfl) ?_)  -- region 7
    refine ev_seq (ev_seq (ev_reg (by simp [hal, hbl]; rfl) ?_))  -- region 8
    refine ev_cond rfl (fun hb => by simp at hb) (fun hb => ?_)  -- 60
    refine ev_skip ?_
    refine ev_seq (ev_drw rfl (by kernel_rfl) (by kernel_rfl) (by simp [hkn, rowF, hka, hkb, hxa1, hxb1, e1, e2, hle, h20]; rfl) ?_)  -- region 10
    refine ev_ret ?_
    simp
end Go.Proofs.Ytoafhoihigfllaa.E
