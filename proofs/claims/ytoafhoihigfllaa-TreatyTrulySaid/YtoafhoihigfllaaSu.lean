/-
  The chapter of the treaty: the law of the true list: the walk. Conditions: none.
-/
import Derived.Test.YtoafhoihigfllaaSf
namespace Go.Proofs.Ytoafhoihigfllaa.E
open Go Go.RowKit
set_option linter.unusedVariables false
set_option linter.unusedSimpArgs false
/-- the program, with a trade of one's own handed on fixed -/
noncomputable def pgd (ctx : Ctx) : Pg := { pg ctx with fz := fun k => k == 34 }
@[simp] theorem pgd_tbl (ctx : Ctx) : (pgd ctx).tbl = tbl := rfl
@[simp] theorem pgd_ctx (ctx : Ctx) : (pgd ctx).ctx = ctx := rfl
@[simp] theorem pgd_keys (ctx : Ctx) : (pgd ctx).keys = [98] := rfl
@[simp] theorem pgd_inl (ctx : Ctx) (k d : Nat) (σ : St) (a : List V) : (pgd ctx).inl k d σ a = none := rfl
@[simp] theorem pgd_fz (ctx : Ctx) (k : Nat) : (pgd ctx).fz k = (k == 34) := rfl
@[simp] theorem pgd_yl (ctx : Ctx) : (pgd ctx).yl = none := rfl
@[simp] theorem pgd_eqs (ctx : Ctx) : (pgd ctx).eqs = [(80, (8, true)), (98, (2, false))] := rfl
theorem tokd (ctx : Ctx) : TOk (pgd ctx) := ⟨(tok ctx).tt, (tok ctx).ee, (tok ctx).kk, (tok ctx).zv⟩
theorem fam_ctxd (L : List Fm) : CtxOk (pgd (famCtx L)) :=
  ⟨fun k xs res h => fam_ok h, fun k cells xs res h => (by cases h), fun k sz xs ys h => (by cases h), fun k d σ args σ' vs h => (by cases h), fun k caps xs h => (by cases h), fun k caps xs i h => (by cases h)⟩
/-- how much of a list is told -/
def cutN (bits : List Int) (m : Nat) : Nat := (modI (pickI bits 0) (m + 1)).toNat
/-- the other list -/
def otherL (bits : List Int) (m : Nat) : List Int := (mixI m bits).take (cutN bits m)
/-- a trade in which a curer tells another list -/
def withX (t : Trade) (k : Nat) (L : List Int) : Trade := ⟨t.fc, t.cu.set k (false, L), t.fd, t.co⟩
theorem withX_alike (t : Trade) (k : Nat) (L : List Int) : Alike k t (withX t k L) := by
  refine ⟨by simp [withX], rfl, fun i hi => ?_, fun c => rfl, fun c => rfl⟩
  simp [listAt, withX, List.getD_eq_getElem?_getD, Ne.symm hi]
theorem withX_list {t : Trade} {k : Nat} (hk : k < t.cu.length) (L : List Int) : listAt (withX t k L) k = L := by
  simp [listAt, withX, List.getD_eq_getElem?_getD, hk]
theorem withX_47 {t : Trade} (ht : Trade47 t) (k : Nat) {L : List Int} (hL : L.length * 8 ≤ 140737488355328) : Trade47 (withX t k L) := by
  refine ⟨by simp only [withX, List.length_set]; exact ht.cul, ht.col, fun p hp => ?_, ht.co⟩
  rcases List.mem_or_eq_of_mem_set hp with h | h
  · exact ht.cu p h
  · rw [h]; exact hL
theorem other_ok {bits : List Int} {m : Nat} (hm : m ≤ 5) : (otherL bits m).Nodup ∧ ∀ x ∈ otherL bits m, 0 ≤ x ∧ x < m := by
  have ho := mixI_ord m bits (by omega)
  exact ⟨ho.nd.sublist (List.take_sublist _ _), fun x hx => ho.rng x (List.mem_of_mem_take hx)⟩
theorem other_len {bits : List Int} {m : Nat} (hm : m ≤ 5) : (otherL bits m).length ≤ 5 := by
  have ho := mixI_ord m bits (by omega)
  have h := List.length_take_le (cutN bits m) (mixI m bits)
  have h2 : (otherL bits m).length ≤ (mixI m bits).length := by unfold otherL; rw [List.length_take]; omega
  rw [ho.len] at h2; omega
theorem v12 (ctx : Ctx) (hC : CtxOk (pgd ctx)) (t : Trade) (hfc : t.fc = false) (hlen : t.cu.length * 24 ≤ 140737488355328) (a : Int) (bits : List Int) (r1 r2 cb : Bool) (h43 : ctx 43 [(false, tradeF t)] = some [.fv (.bool (okTrade t))]) (h37 : H37 ctx) (h41 : t.co.length ≤ 8 → ∀ r1 r2 c, ctx 41 [(r1, .int .i64 t.co.length), (r2, .sl c 1 (ints bits))] = some [.us 1 (ints (mixI t.co.length bits))]) (h47 : H47 ctx) (h34 : H34 ctx t) (h34x : okTrade t = true → ∀ k, k < t.cu.length → H34 ctx (withX t k (otherL bits t.co.length))) (h45 : okTrade t = true → H45 ctx t) (h20 : ctx 20 [] = some [.fv (.bool true)]) :
    Valid Try.prog 12 [(false, tradeF t), (r1, .int .i64 a), (r2, .sl cb 1 (ints bits))] [.fv (.bool true)] := by
  refine valid_of_ev (G := pgd ctx) (tokd ctx) hC mixed Try.func12 T12 L12 (by simp [Try.ntmps12]) ⟨_, rfl, ?_⟩
  simp only [Try.ntmps12, Try.results12, initSt, initEnv]
  unfold H34 at h34
  simp only [tradeF, cellsT] at h43 h34 ⊢
  cases hok : okTrade t with
  | false =>
    rw [hok] at h43
    refine ev_seq (ev_reg (by simp [boxA, vcells]; rfl) ?_)  -- region 0
    refine ev_seq (ev_seq (ev_reg (by simp [h43]; rfl) ?_))  -- region 1
    refine ev_cond rfl (fun hb => ?_) (fun hb => by simp at hb)  -- 15
    refine ev_seq (ev_reg (by simp [h20]; rfl) ?_)  -- region 2
    refine ev_ret ?_
    simp
  | true =>
    have hT := okTrade_iff.mp hok
    have hn := hT.n
    have hm := hT.m
    rw [hok] at h43
    have h45 := h45 hok
    unfold H45 at h45
    simp only [tradeF, cellsT] at h45
    have e37a := h37 a t.cu.length (by omega)
    have hma := modI_bound a t.cu.length (by omega) (by omega)
    obtain ⟨k, hk⟩ : ∃ k : Nat, modI a t.cu.length = (k : Int) := ⟨(modI a t.cu.length).toNat, by omega⟩
    rw [hk] at e37a hma
    have hkn : k < t.cu.length := by omega
    have hal := withX_alike t k (otherL bits t.co.length)
    have hXl := withX_list hkn (otherL bits t.co.length)
    have hX : TradeOk (withX t k (otherL bits t.co.length)) := hal.ok hT (by rw [hXl]; exact other_ok (by omega))
    have hokx : okTrade (withX t k (otherL bits t.co.length)) = true := okTrade_iff.mpr hX
    have hB := dealsOf_best hT
    have hBx := dealsOf_best hX
    have hbest := truly hT hX hkn hal hB hBx
    have h34x := h34x hok k hkn
    unfold H34 at h34x
    rw [dealsW, codeT, hokx] at h34x
    rw [dealsW, codeT, hok] at h34
    simp only [if_true] at h34 h34x
    have hxl := hBx.st.len
    rw [← hal.n] at hxl
    generalize dealsOf (withX t k (otherL bits t.co.length)) = m at *
    generalize dealsOf t = l at *
    have hll := hB.st.len
    simp only [tradeF, cellsT, withX, hfc] at h34x
    have hj : cutN bits t.co.length ≤ (mixI t.co.length bits).length := by
      rw [(mixI_ord t.co.length bits (by omega)).len, cutN]
      have := modI_bound (pickI bits 0) (t.co.length + 1) (by omega) (by omega)
      rw [show ((t.co.length + 1 : Nat) : Int) = (t.co.length : Int) + 1 from rfl] at this
      omega
    have e37b := h37 (pickI bits 0) ((t.co.length : Int) + 1) (by omega)
    have hj2 : modI (pickI bits 0) ((t.co.length : Int) + 1) = (cutN bits t.co.length : Nat) := by
      have := modI_bound (pickI bits 0) (t.co.length + 1) (by omega) (by omega)
      rw [show ((t.co.length + 1 : Nat) : Int) = (t.co.length : Int) + 1 from rfl] at this
      rw [cutN]; omega
    rw [hj2] at e37b
    have e41 := h41 (by omega)
    have e47 : ∀ r1 r2 c, ctx 47 [(r1, .sl c 1 (ints bits)), (r2, .int .i64 0)] = some [.fv (.int .i64 (pickI bits 0))] := fun r1 r2 c => h47 bits 0 r1 r2 c
    have hw : IntKind.i64.wrap ((t.co.length : Int) + 1) = t.co.length + 1 := wrap_id (by omega) (by omega)
    have hkr : (rowsF t.cu)[k]? = some (rowF t.cu[k]) := by simp [hkn]
    have hset : List.take t.cu.length ((rowsF t.cu).set k (FV.sl false 1 (ints (List.take (cutN bits t.co.length) (mixI t.co.length bits))))) = rowsF (t.cu.set k (false, otherL bits t.co.length)) := by
      rw [List.take_of_length_le (by simp)]
      simp [rowsF, otherL, rowF, List.map_set]
    generalize cutN bits t.co.length = j at *
    generalize pickI bits 0 = p at *
    obtain ⟨x, hgx, hgx2, hxl2, hgx3⟩ := deal_get2 hll hkn
    obtain ⟨y, hgy, hgy2, hyl2, hgy3⟩ := deal_get2 hxl hkn
    rw [hgx, hgy] at hbest
    have e45a := h45 k x hkn
    have e45b := h45 k y hkn
    refine ev_seq (ev_reg (by simp [boxA, vcells]; rfl) ?_)  -- region 0
    refine ev_seq (ev_seq (ev_reg (by simp [h43]; rfl) ?_))  -- region 1
    refine ev_cond rfl (fun hb => by simp at hb) (fun hb => ?_)  -- 15
    refine ev_skip ?_
    refine ev_seq (ev_reg (by simp [e37a]; rfl) ?_)  -- region 3
    refine ev_seq (ev_reg (by simp; rfl) ?_)  -- region 4
    refine ev_seq (ev_reg (by simp [hlen]; rfl) ?_)  -- region 5
    refine ev_seq (ev_drw rfl (by kernel_rfl) (by kernel_rfl) (by simp [hkn, hkr, e41, e47, hw, e37b, hj]; rfl) ?_)  -- region 6
    refine ev_seq (ev_reg (by simp [h34]; rfl) ?_)  -- region 7
    refine ev_seq (ev_reg (by simp [hset, h34x]; rfl) ?_)  -- region 8
    refine ev_seq (ev_seq (ev_reg (by simp [hll, hxl]; rfl) ?_))  -- region 9
    refine ev_cond rfl (fun hb => by simp at hb) (fun hb => ?_)  -- 75
    refine ev_skip ?_
    refine ev_seq (ev_drw rfl (by kernel_rfl) (by kernel_rfl) (by simp [hll, hxl, hkn, hgx2, hgx3, hgy2, hgy3, e45a, e45b, hbest, h20]; rfl) ?_)  -- region 11
    refine ev_ret ?_
    simp
theorem law12 (t : Trade) (ht : Trade47 t) (hfc : t.fc = false) (hlen : t.cu.length * 24 ≤ 140737488355328) (a : Int) (bits : List Int) (r1 r2 cb : Bool) : Valid Try.prog 12 [(false, tradeF t), (r1, .int .i64 a), (r2, .sl cb 1 (ints bits))] [.fv (.bool true)] :=
  v12 _ (fam_ctxd [F43, F37i, F41, F47, F34, F45, F20]) t hfc hlen a bits r1 r2 cb (at43 rfl ht) (at37 rfl) (fun h r1 r2 c => at41 rfl h bits r1 r2 c) (fun bits i r1 r2 c => fam_at (F := F47) rfl ((r1, r2, c), bits, i) rfl rfl) (at34 rfl ht)
    (fun hok k hk => at34 rfl (withX_47 ht k (by have := other_len (bits := bits) (okTrade_iff.mp hok).m.2; omega))) (fun hok => at45 rfl (okTrade_iff.mp hok).row62) (fam_at (F := F20) rfl () rfl rfl)
end Go.Proofs.Ytoafhoihigfllaa.E
