/-
  The chapter of the treaty: the law of the room: the walk. Conditions: none.
-/
import Derived.Test.YtoafhoihigfllaaRm
namespace Go.Proofs.Ytoafhoihigfllaa.E
open Go Go.RowKit
set_option linter.unusedVariables false
set_option linter.unusedSimpArgs false
/-- an entry of the deals -/
theorem deal_get {t : Trade} {d : List Int} (h : d.length = t.cu.length) {i : Nat} (hi : i < t.cu.length) : ∃ x, d.getD i 0 = x ∧ d[i]? = some x ∧ ∃ h : i < d.length, d[i] = x := by
  have hl : i < d.length := by omega
  exact ⟨d[i], by simp [List.getD_eq_getElem?_getD, List.getElem?_eq_getElem hl], List.getElem?_eq_getElem hl, hl, rfl⟩
set_option maxRecDepth 8000 in
theorem v14 (ctx : Ctx) (hC : CtxOk (pg ctx)) (t : Trade) (a b : Int) (r1 : Bool) (h43 : ctx 43 [(false, tradeF t)] = some [.fv (.bool (okTrade t))]) (h34 : H34 ctx t) (h45 : okTrade t = true → H45 ctx t) (h46 : H46 ctx) (h40 : H40 ctx) (h37 : H37 ctx) (h36 : H36 ctx) (h20 : ctx 20 [] = some [.fv (.bool true)]) :
    Valid Try.prog 14 [(false, tradeF t), (r1, .agg [.int .i64 a, .int .i64 b])] [.fv (.bool true)] := by
  refine valid_of_ev (G := pg ctx) (tok ctx) hC mixed Try.func14 T14 L14 (by simp [Try.ntmps14]) ⟨_, rfl, ?_⟩
  simp only [Try.ntmps14, Try.results14, initSt, initEnv]
  unfold H34 at h34
  simp only [tradeF, cellsT] at h43 h34 ⊢
  cases hok : okTrade t with
  | false =>
    rw [hok] at h43
    refine ev_seq (ev_reg (by simp [boxA, vcells]; rfl) ?_)  -- region 0
    refine ev_seq (ev_seq (ev_reg (by simp [h43]; rfl) ?_))  -- region 1
    refine ev_cond rfl (fun hb => ?_) (fun hb => by simp at hb)  -- 13
    refine ev_seq (ev_reg (by simp [h20]; rfl) ?_)  -- region 2
    refine ev_ret ?_
    simp
  | true =>
    rw [hok] at h43
    have hT := okTrade_iff.mp hok
    have hB := dealsOf_best hT
    have hS := hB.st
    have hdw : dealsW t = dealsOf t := by rw [dealsW, hok]; rfl
    have h45 := h45 hok
    unfold H45 at h45
    simp only [tradeF, cellsT] at h45
    rw [hdw, codeT, hok] at h34
    clear hB hdw
    generalize dealsOf t = d at *
    have hn := hT.n
    have hm := hT.m
    have e37a := h37 a t.cu.length (by omega)
    have e37b := h37 b t.co.length (by omega)
    have hma := modI_bound a t.cu.length (by omega) (by omega)
    have hmb := modI_bound b t.co.length (by omega) (by omega)
    obtain ⟨i, hi⟩ : ∃ i : Nat, modI a t.cu.length = (i : Int) := ⟨(modI a t.cu.length).toNat, by omega⟩
    obtain ⟨c, hc⟩ : ∃ c : Nat, modI b t.co.length = (c : Int) := ⟨(modI b t.co.length).toNat, by omega⟩
    rw [hi] at e37a hma
    rw [hc] at e37b hmb
    have hin : i < t.cu.length := by omega
    have hcm : c < t.co.length := by omega
    have hdl := hS.len
    have hil : i < d.length := by omega
    obtain ⟨x, hgx, hgx2, _, hgx3⟩ := deal_get hdl hin
    have e46 := h46 d c (by omega)
    have hfew := hS.few c hcm
    have hroom := roomAt_get hcm
    have hown := hS.own i hin
    rw [hgx] at hown
    have e36 : ∀ r1 r2 r3, ctx 36 [(r1, .int .i64 x), (r2, .int .i64 (-1)), (r3, .int .i64 ((t.co.length : Int) - 1))] = some [.fv (.bool true)] := fun r1 r2 r3 => by
      rw [h36 r1 r2 r3]
      have : -1 ≤ x ∧ x ≤ (t.co.length : Int) - 1 := by
        rcases hown with h | h
        · omega
        · have := (hT.cu i hin).2 x h; omega
      simp; omega
    have hw3 : IntKind.i64.wrap ((t.co.length : Int) - 1) = (t.co.length : Int) - 1 := wrap_id (by omega) (by omega)
    have hno : ¬ roomAt t c < manyN d c := by rw [manyN]; omega
    rw [hroom] at hno
    have hge : ¬ (t.co[c].1 < (manyN d c : Int)) := hno
    have hmle : (manyN d c : Int) ≤ t.co[c].1 := by omega
    have e40 := h40 (listAt t i) x (hT.row62 i)
    rw [listAt_get hin] at e40
    have hpos : x ≠ -1 → 0 ≤ idx (· == x) t.cu[i].2 := fun h => by
      have h2 := hown.resolve_left h
      rw [listAt_get hin] at h2
      obtain ⟨k, _, h3⟩ := idx_at h2
      omega
    have hq0 : 0 ≤ x → x ≠ -1 := fun h => by omega
    obtain ⟨z, hz⟩ : ∃ z, idx (· == x) t.cu[i].2 = z := ⟨_, rfl⟩
    rw [hz] at e40 hpos
    refine ev_seq (ev_reg (by simp [boxA, vcells]; rfl) ?_)  -- region 0
    refine ev_seq (ev_seq (ev_reg (by simp [h43]; rfl) ?_))  -- region 1
    refine ev_cond rfl (fun hb => by simp at hb) (fun hb => ?_)  -- 13
    refine ev_skip ?_
    refine ev_seq (ev_drw rfl (by kernel_rfl) (by kernel_rfl) (by simp [e37a, e37b]; rfl) ?_)  -- region 3
    refine ev_seq (ev_reg (by simp [h34]; rfl) ?_)  -- region 4
    have hclen : (t.cu.length : Int) = d.length := by omega
    refine ev_seq (ev_seq (ev_drw (σ' := { env := [(2, V.ptr 2 0), (5, V.fv false (.int .i64 i)), (6, V.fv false (.int .i64 c)), (7, V.own 7 0 d.length), (85, V.fv false (.bool false))], blk := [(2, Blk.box [V.fv false (FV.sl t.fc 1 (rowsF t.cu)), V.fv false (FV.sl t.fd 2 (ctrysF t.co))]), (7, Blk.arr 1 (ints d))] }) rfl (by kernel_rfl) (by kernel_rfl) (by
      by_cases hx0 : 0 ≤ x
      · have hz0 := hpos (hq0 hx0)
        have hz1 : ¬ z < 0 := by omega
        simp [unsetS, ← hdl, e46, hcm, ctryF, hge, hmle, hil, hin, hgx2, hgx3, hx0, rowF, e40, hz0, hz1, hw3, e36]
      · have hz1 : x < 0 := by omega
        simp [unsetS, ← hdl, e46, hcm, ctryF, hge, hmle, hil, hin, hgx2, hgx3, hx0, hz1, hw3, e36]) ?_))  -- region 5
    refine ev_cond rfl (fun hb => by simp at hb) (fun hb => ?_)  -- 85
    refine ev_skip ?_
    have e45a := h45 i c hin
    have e45b := h45 i x hin
    obtain ⟨A, hA⟩ : ∃ A, A = decide (placeT t i x ≤ placeT t i c) := ⟨_, rfl⟩
    refine ev_seq (ev_seq (ev_drw rfl (by kernel_rfl) (by kernel_rfl) (by simp [e45a, e45b, hil, hgx2, hgx3, ← hA]; rfl) ?_))  -- region 7
    cases A with
    | true =>
      refine ev_cond rfl (fun hb => ?_) (fun hb => by simp at hb)  -- 97
      refine ev_seq (ev_reg (by simp [h20]; rfl) ?_)  -- region 8
      refine ev_ret ?_
      simp
    | false =>
      refine ev_cond rfl (fun hb => by simp at hb) (fun hb => ?_)  -- 97
      refine ev_skip ?_
      have hlt : placeT t i c < placeT t i x := by have := of_decide_eq_false hA.symm; omega
      have hci : (c : Int) ∈ listAt t i := place_lt.mp (by have := (place_le t i x).2; omega)
      obtain ⟨hfull, hless⟩ := hS.no i c hin hci (by rw [hgx]; exact hlt)
      have hmr : (manyN d c : Int) = t.co[c].1 := by rw [manyN, ← hroom]; exact hfull
      have hlk := hT.likes c hcm
      have hlne : ¬ (t.co[c].2.1 = true ∧ ints t.co[c].2.2 = []) := fun ⟨_, e⟩ => by
        have h1 := hlk.len
        rw [likesAt_get hcm, show t.co[c].2.2 = [] from by simpa [ints] using e] at h1
        simp only [List.length_nil] at h1
        omega
      refine ev_seq (ev_seq (ev_drw rfl (by kernel_rfl) (by kernel_rfl) (by simp [e46, hcm, ctryF, hmr]; rfl) ?_))  -- region 9
      refine ev_cond rfl (fun hb => by simp at hb) (fun hb => ?_)  -- 108
      refine ev_skip ?_
      refine ev_seq (ev_reg (by simp [-asgA, hcm, ctryF, asg_sl hlne]; rfl) ?_)  -- region 11
      refine ev_seq (ev_seq (ev_reg (by simp; rfl) ?_))  -- region 12
      refine ev_block ?_  -- 0
      refine ev_loop (fun k : Nat => ({ env := [(5, V.fv false (.int .i64 i)), (6, V.fv false (.int .i64 c)), (7, V.own 7 0 d.length), (9, V.fv false (.sl t.co[c].2.1 1 (ints t.co[c].2.2))), (10, V.fv false (.int .i64 k))], blk := [(7, Blk.arr 1 (ints d))] } : St)) (fun k => d.length - k) (fun k => k ≤ d.length) 0 (by simp) (by simp) (by simp [R]; omega) (fun k hk => ?_)
      refine ev_seq (ev_seq (ev_reg (by simp; rfl) ?_))  -- region 13
      refine ev_cond rfl (fun hb => ?_) (fun hb => ?_)  -- 118
      · simp at hb
        have hkn : k < t.cu.length := by omega
        have hw1 : IntKind.i64.wrap ((k : Int) + 1) = (k + 1 : Nat) := wrap_nat (n := k + 1) (by omega)
        obtain ⟨y, hgy, hgy2, hyl, hgy3⟩ := deal_get hdl hkn
        have e1 := h40 (likesAt t c) k (likes62 hT hcm)
        have e2 := h40 (likesAt t c) i (likes62 hT hcm)
        rw [show idx (· == (k : Int)) (likesAt t c) = rankN t c k from rfl, likesAt_get hcm] at e1
        rw [show idx (· == (i : Int)) (likesAt t c) = rankN t c i from rfl, likesAt_get hcm] at e2
        refine ev_skip ?_
        refine ev_seq (ev_block ?_)  -- 1
        refine ev_seq (ev_reg (σ' := { env := [(5, V.fv false (.int .i64 i)), (6, V.fv false (.int .i64 c)), (7, V.own 7 0 d.length), (9, V.fv false (.sl t.co[c].2.1 1 (ints t.co[c].2.2))), (10, V.fv false (.int .i64 k)), (135, V.fv false (.bool false))], blk := [(7, Blk.arr 1 (ints d))] }) (by
          by_cases hyc : y = c
          · have hle := hless k (mem_sell.mpr ⟨hb, by rw [hgy, hyc]⟩)
            have hbq : (y == (c : Int)) = true := by simp [hyc]
            have hnlt : ¬ rankN t c i < rankN t c k := by omega
            simp [hb, hgy2, hgy3, hbq, e1, e2, hle, hnlt]
          · have hbq : (y == (c : Int)) = false := by simp [hyc]
            simp [hb, hgy2, hgy3, hbq, unsetS]) ?_)  -- region 15
        refine ev_cond rfl (fun hb => by simp at hb) (fun hb => ?_)  -- 135
        refine ev_skip ?_
        refine ev_reg (by simp [hw1]; rfl) ?_  -- region 14
        exact ⟨k + 1, by simp, by omega, by omega⟩
      · simp at hb
        refine ev_exit ?_  -- 0
        refine ev_seq (ev_reg (by simp [h20]; rfl) ?_)  -- region 17
        refine ev_ret ?_
        simp
end Go.Proofs.Ytoafhoihigfllaa.E
