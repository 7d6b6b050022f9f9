/-
  The chapter of the treaty: contracts that many laws ask for. Conditions: none.
-/
import Derived.Test.YtoafhoihigfllaaSv
import Derived.Test.YtoafhoihigfllaaTp
namespace Go.Proofs.Ytoafhoihigfllaa.E
open Go Go.RowKit
set_option linter.unusedVariables false
set_option linter.unusedSimpArgs false
noncomputable def F37i : Fm where
  k := 37
  α := (Bool × Bool) × Int × { d : Int // d ≠ 0 }
  f := fun x => [(x.1.1, .int .i64 x.2.1), (x.1.2, .int .i64 x.2.2.1)]
  g := fun x => [.fv (.int .i64 (modI x.2.1 x.2.2.1))]
  inj := fun ⟨⟨a, b⟩, n, d, h1⟩ ⟨⟨a', b'⟩, n', d', h1'⟩ h => by simp at h; simp [h]
  ok := fun ⟨⟨a, b⟩, n, d, h1⟩ => v37 _ (fam_ctx []) n d h1 a b
  en := enters_of Try.func37 (by kernel_rfl)
theorem at37 {L : List Fm} (h : L.find? (fun G => G.k == 37) = some F37i) : H37 (famCtx L) := fun n d hd r1 r2 => fam_at h ((r1, r2), n, ⟨d, hd⟩) rfl rfl
theorem at40 {L : List Fm} (h : L.find? (fun G => G.k == 40) = some F40) : H40 (famCtx L) := fun l n hl ro r2 c => fam_at h ((ro, r2, c), ⟨l, hl⟩, n) rfl rfl
theorem at62 {L : List Fm} (h : L.find? (fun G => G.k == 62) = some F62) : H62 (famCtx L) := fun l n hl hn ro r2 c => fam_at h ((ro, r2, c), ⟨l, hl⟩, ⟨n, hn⟩) rfl rfl
theorem modI_bound (n : Int) (p : Nat) (h1 : 1 ≤ p) (h2 : p ≤ 256) : 0 ≤ modI n p ∧ modI n p ≤ (p : Int) - 1 := by
  have a := Int.tmod_lt_of_pos n (show (0 : Int) < p by omega)
  have b := Int.lt_tmod_of_pos n (show (0 : Int) < p by omega)
  unfold modI
  split
  · rw [wrap_id (by omega) (by omega)]; omega
  · omega
def pickI (bits : List Int) (i : Nat) : Int := if bits.length = 0 then 0 else bits.getD (i % bits.length) 0
theorem v47 (ctx : Ctx) (hC : CtxOk (pg ctx)) (h37 : H37 ctx) (bits : List Int) (i : Nat) (r1 r2 c : Bool) :
    Valid Try.prog 47 [(r1, .sl c 1 (ints bits)), (r2, .int .i64 i)] [.fv (.int .i64 (pickI bits i))] := by
  refine valid_of_ev (G := pg ctx) (tok ctx) hC mixed Try.func47 T47 L47 (by simp [Try.ntmps47]) ⟨_, rfl, ?_⟩
  simp only [Try.ntmps47, Try.results47, initSt, initEnv]
  refine ev_seq (ev_reg (by simp; rfl) ?_)  -- region 0
  obtain ⟨E, hE⟩ : ∃ E, E = ((bits.length : Int) == 0) := ⟨_, rfl⟩
  by_cases h0 : bits.length = 0
  · refine ev_seq (ev_seq (ev_reg (by simp; rfl) ?_))  -- region 1
    refine ev_cond rfl (fun hb => ?_) (fun hb => by simp at hb; simp [hb] at h0)  -- 7
    refine ev_seq (ev_reg (by simp; rfl) ?_)  -- region 2
    refine ev_ret ?_
    simp [pickI, h0]
  · have e37 := h37 i bits.length (by omega)
    rw [modI_nat] at e37
    have hlt : i % bits.length < bits.length := Nat.mod_lt _ (by omega)
    have hp : pickI bits i = bits[i % bits.length] := by rw [pickI, if_neg h0, List.getD_eq_getElem?_getD, List.getElem?_eq_getElem hlt]; rfl
    rw [hp]
    generalize i % bits.length = k at *
    refine ev_seq (ev_seq (ev_reg (by simp; rfl) ?_))  -- region 1
    refine ev_cond rfl (fun hb => by simp at hb; simp [hb] at h0) (fun hb => ?_)  -- 7
    refine ev_skip ?_
    refine ev_seq (ev_reg (by simp [e37, hlt]; rfl) ?_)  -- region 3
    refine ev_ret ?_
    simp
def H47 (ctx : Ctx) : Prop := ∀ (bits : List Int) (i : Nat) (r1 r2 c : Bool), ctx 47 [(r1, .sl c 1 (ints bits)), (r2, .int .i64 i)] = some [.fv (.int .i64 (pickI bits i))]
def mixK (bits : List Int) (i : Nat) (left : List Int) : Nat := (modI (pickI bits i) left.length).toNat
/-- what is left, and what has been chosen -/
def mixS (bits : List Int) (n : Nat) : Nat → List Int × List Int
  | 0 => (nn (List.range n), [])
  | i+1 => ((mixS bits n i).1.take (mixK bits i (mixS bits n i).1) ++ (mixS bits n i).1.drop (mixK bits i (mixS bits n i).1 + 1), (mixS bits n i).2 ++ [(mixS bits n i).1.getD (mixK bits i (mixS bits n i).1) 0])
def mixI (n : Nat) (bits : List Int) : List Int := (mixS bits n n).2
theorem mixK_lt {bits : List Int} {i : Nat} {left : List Int} (h : 0 < left.length) (h2 : left.length ≤ 256) : mixK bits i left < left.length ∧ modI (pickI bits i) left.length = ((mixK bits i left : Nat) : Int) := by
  have := modI_bound (pickI bits i) left.length h h2
  unfold mixK
  omega
theorem mixS_facts (bits : List Int) (n : Nat) (hn : n ≤ 256) : ∀ i, i ≤ n → (mixS bits n i).1.length = n - i ∧ (mixS bits n i).2.length = i ∧ ((mixS bits n i).2 ++ (mixS bits n i).1).Perm (nn (List.range n))
  | 0, _ => ⟨by simp [mixS], by simp [mixS], by simp [mixS]⟩
  | i+1, h => by
    obtain ⟨h1, h2, h3⟩ := mixS_facts bits n hn i (by omega)
    have hk := (mixK_lt (bits := bits) (i := i) (left := (mixS bits n i).1) (by omega) (by omega)).1
    simp only [mixS]
    generalize mixS bits n i = s at *
    generalize mixK bits i s.1 = k at *
    have hg : s.1.getD k 0 = s.1[k] := by rw [List.getD_eq_getElem?_getD, List.getElem?_eq_getElem hk]; rfl
    refine ⟨by simp; omega, by simp [h2], ?_⟩
    refine List.Perm.trans ?_ h3
    rw [hg, List.append_assoc]
    refine List.Perm.append_left _ ?_
    have e : s.1 = s.1.take k ++ s.1[k] :: s.1.drop (k + 1) := by
      rw [← List.drop_eq_getElem_cons hk, List.take_append_drop]
    conv => rhs; rw [e]
    rw [List.singleton_append]
    exact List.perm_middle.symm
theorem mixI_ord (n : Nat) (bits : List Int) (hn : n ≤ 256) : IsOrd (mixI n bits) n := by
  obtain ⟨h1, h2, h3⟩ := mixS_facts bits n hn n (Nat.le_refl _)
  have h0 : (mixS bits n n).1 = [] := List.length_eq_zero_iff.mp (by omega)
  rw [h0, List.append_nil] at h3
  have hnd : (nn (List.range n)).Nodup := by
    unfold nn
    rw [List.nodup_iff_pairwise_ne, List.pairwise_map]
    have := List.nodup_range (n := n)
    rw [List.nodup_iff_pairwise_ne] at this
    exact this.imp fun h e => h (by omega)
  refine ⟨h2, fun x hx => ?_, h3.nodup_iff.mpr hnd⟩
  have := h3.mem_iff.mp hx
  simp only [nn, List.mem_map, List.mem_range] at this
  obtain ⟨y, hy, rfl⟩ := this
  omega
theorem v41 (ctx : Ctx) (hC : CtxOk (pg ctx)) (h37 : H37 ctx) (h47 : H47 ctx) (n : Nat) (hn : n ≤ 8) (bits : List Int) (r1 r2 c : Bool) :
    Valid Try.prog 41 [(r1, .int .i64 n), (r2, .sl c 1 (ints bits))] [.us 1 (ints (mixI n bits))] := by
  refine valid_of_ev (G := pg ctx) (tok ctx) hC mixed Try.func41 T41 L41 (by simp [Try.ntmps41]) ⟨_, rfl, ?_⟩
  simp only [Try.ntmps41, Try.results41, initSt, initEnv]
  refine ev_seq (ev_reg (by simp; rfl) ?_)  -- region 0
  refine ev_seq (ev_reg (by simp; rfl) ?_)  -- region 1
  refine ev_seq (ev_seq (ev_reg (by simp; rfl) ?_))  -- region 2
  refine ev_block ?_  -- 0
  refine ev_loop (fun i : Nat => ({ env := [(0, V.fv r1 (.int .i64 n)), (1, V.fv r2 (.sl c 1 (ints bits))), (5, V.own 5 0 i), (6, V.own 6 0 0), (7, V.fv false (.int .i64 i))], blk := [(5, Blk.arr 1 (ints (nn (List.range i)))), (6, Blk.arr 1 [])] } : St)) (fun i => n - i) (fun i => i ≤ n) 0 rfl (by simp) (by simp [R]; omega) (fun i hi => ?_)
  refine ev_seq (ev_seq (ev_reg (by simp; rfl) ?_))  -- region 3
  refine ev_cond rfl (fun hb => ?_) (fun hb => ?_)  -- 12
  · simp at hb
    have hw1 : IntKind.i64.wrap ((i : Int) + 1) = (i + 1 : Nat) := wrap_nat (n := i + 1) (by omega)
    have hb8 : (i + 1) * 8 ≤ 140737488355328 := by omega
    refine ev_skip ?_
    refine ev_seq (ev_block ?_)  -- 1
    refine ev_reg (by simp [hb8]; rfl) ?_  -- region 5
    refine ev_reg (by simp [hw1]; rfl) ?_  -- region 4
    refine ⟨i + 1, ?_, by omega, by omega⟩
    rw [List.range_succ, nn_append]
    simp
    simp [nn, ints]
  · simp at hb
    have hin : i = n := by omega
    subst hin
    refine ev_exit ?_  -- 0
    refine ev_seq (ev_seq (ev_reg (by simp; rfl) ?_))  -- region 6
    refine ev_block ?_  -- 2
    refine ev_loop (fun j : Nat => ({ env := [(0, V.fv r1 (.int .i64 i)), (1, V.fv r2 (.sl c 1 (ints bits))), (5, V.own 5 0 (mixS bits i j).1.length), (6, V.own 6 0 (mixS bits i j).2.length), (8, V.fv false (.int .i64 j))], blk := [(5, Blk.arr 1 (ints (mixS bits i j).1)), (6, Blk.arr 1 (ints (mixS bits i j).2))] } : St)) (fun j => i - j) (fun j => j ≤ i) 0 (by simp [mixS]) (by simp) (by simp [R]; omega) (fun j hj => ?_)
    obtain ⟨f1, f2, _⟩ := mixS_facts bits i (by omega) j hj
    refine ev_seq (ev_seq (ev_reg (by simp; rfl) ?_))  -- region 7
    refine ev_cond rfl (fun hb => ?_) (fun hb => ?_)  -- 21
    · simp at hb
      have hw1 : IntKind.i64.wrap ((j : Int) + 1) = (j + 1 : Nat) := wrap_nat (n := j + 1) (by omega)
      have hnx : mixS bits i (j + 1) = ((mixS bits i j).1.take (mixK bits j (mixS bits i j).1) ++ (mixS bits i j).1.drop (mixK bits j (mixS bits i j).1 + 1), (mixS bits i j).2 ++ [(mixS bits i j).1.getD (mixK bits j (mixS bits i j).1) 0]) := rfl
      obtain ⟨k1, k2⟩ := mixK_lt (bits := bits) (i := j) (left := (mixS bits i j).1) (by omega) (by omega)
      have e37 := h37 (pickI bits j) ((mixS bits i j).1.length : Int) (by omega)
      rw [k2] at e37
      have e47 := h47 bits j
      generalize mixS bits i j = s at *
      generalize mixK bits j s.1 = k at *
      obtain ⟨l, o⟩ := s
      simp only at *
      have hg : l.getD k 0 = l[k] := by rw [List.getD_eq_getElem?_getD, List.getElem?_eq_getElem k1]; rfl
      have hw2 : IntKind.i64.wrap ((k : Int) + 1) = (k + 1 : Nat) := wrap_nat (n := k + 1) (by omega)
      have hb8 : (o.length + 1) * 8 ≤ 140737488355328 := by omega
      refine ev_skip ?_
      refine ev_seq (ev_block ?_)  -- 3
      refine ev_seq (ev_reg (by simp [e47, e37]; rfl) ?_)  -- region 9
      refine ev_seq (ev_reg (by simp [k1, hb8]; rfl) ?_)  -- region 10
      have hk2 : (k : Int) + 1 ≤ l.length := by omega
      have hk3 : k ≤ l.length := by omega
      have hk0 : (0 : Int) ≤ (k : Int) + 1 := by omega
      have hb1 : k * 8 ≤ 140737488355328 := by omega
      have hb2 : (k + (l.length - (k + 1))) * 8 ≤ 140737488355328 := by omega
      have hmin : min k l.length = k := by omega
      refine ev_drw rfl (by kernel_rfl) (by kernel_rfl) (by simp [hw2, hk0, hk2, hk3, hb1, hb2, hmin]; rfl) ?_  -- region 11
      refine ev_reg (by simp [hw1]; rfl) ?_  -- region 8
      refine ⟨j + 1, ?_, by omega, by omega⟩
      rw [hnx]
      simp [hg]
      refine ⟨hmin.symm, by rw [List.take_of_length_le (by simp)], ?_⟩
      simp [List.getElem?_eq_getElem k1]
    · simp at hb
      have hji : j = i := by omega
      subst hji
      refine ev_exit ?_  -- 2
      refine ev_seq (ev_reg (by simp; rfl) ?_)  -- region 12
      refine ev_ret ?_
      simp [mixI]
noncomputable def F47 : Fm where
  k := 47
  α := (Bool × Bool × Bool) × List Int × Nat
  f := fun x => [(x.1.1, .sl x.1.2.2 1 (ints x.2.1)), (x.1.2.1, .int .i64 x.2.2)]
  g := fun x => [.fv (.int .i64 (pickI x.2.1 x.2.2))]
  inj := fun ⟨⟨a, b, c⟩, l, n⟩ ⟨⟨a', b', c'⟩, l', n'⟩ h => by simp [ints_inj, Int.natCast_inj] at h; simp [h]
  ok := fun ⟨⟨a, b, c⟩, l, n⟩ => v47 _ (fam_ctx [F37i]) (at37 rfl) l n a b c
  en := enters_of Try.func47 (by kernel_rfl)
noncomputable def F41 : Fm where
  k := 41
  α := (Bool × Bool × Bool) × { n : Nat // n ≤ 8 } × List Int
  f := fun x => [(x.1.1, .int .i64 x.2.1.1), (x.1.2.1, .sl x.1.2.2 1 (ints x.2.2))]
  g := fun x => [.us 1 (ints (mixI x.2.1.1 x.2.2))]
  inj := fun ⟨⟨a, b, c⟩, ⟨n, hn⟩, l⟩ ⟨⟨a', b', c'⟩, ⟨n', hn'⟩, l'⟩ h => by simp [ints_inj, Int.natCast_inj] at h; simp [h]
  ok := fun ⟨⟨a, b, c⟩, ⟨n, hn⟩, l⟩ => v41 _ (fam_ctx [F37i, F47]) (at37 rfl) (fun bits i r1 r2 c => fam_at (F := F47) rfl ((r1, r2, c), bits, i) rfl rfl) n hn l a b c
  en := enters_of Try.func41 (by kernel_rfl)
theorem at41 {L : List Fm} (h : L.find? (fun G => G.k == 41) = some F41) {n : Nat} (hn : n ≤ 8) (bits : List Int) (r1 r2 c : Bool) : famCtx L 41 [(r1, .int .i64 n), (r2, .sl c 1 (ints bits))] = some [.us 1 (ints (mixI n bits))] := fam_at h ((r1, r2, c), ⟨n, hn⟩, bits) rfl rfl
theorem rowsF_inj {w v : List (Bool × List Int)} : rowsF w = rowsF v ↔ w = v := by
  constructor
  · intro h
    induction w generalizing v with
    | nil => cases v with
      | nil => rfl
      | cons y v => simp [rowsF] at h
    | cons x w ih => cases v with
      | nil => simp [rowsF] at h
      | cons y v =>
        simp only [rowsF, List.map_cons, List.cons.injEq, rowF, FV.sl.injEq, true_and, ints_inj] at h
        rw [Prod.ext h.1.1 h.1.2, ih h.2]
  · rintro rfl; rfl
end Go.Proofs.Ytoafhoihigfllaa.E
