/-
  The chapter of the treaty: whether deals are stable, by the document: the walk. Conditions: none.
-/
import Derived.Test.YtoafhoihigfllaaSc
import Derived.Test.YtoafhoihigfllaaRm
namespace Go.Proofs.Ytoafhoihigfllaa.E
open Go Go.RowKit
set_option linter.unusedVariables false
set_option linter.unusedSimpArgs false
theorem ev_join {r : Option (Ex × St)} {Q : Ex → St → Prop} (σ' : St) (h : Ev r (fun e τ => e = .normal ∧ τ = σ')) (h2 : Q .normal σ') : Ev r Q :=
  h.mono fun e σ ⟨he, hs⟩ => by rw [he, hs]; exact h2
open Classical in
noncomputable def stabB (t : Trade) (d : List Int) : Bool := decide (StableT t d)
theorem stabB_true {t : Trade} {d : List Int} (h : StableT t d) : stabB t d = true := by unfold stabB; exact @decide_eq_true _ (Classical.propDecidable _) h
theorem stabB_false {t : Trade} {d : List Int} (h : ¬ StableT t d) : stabB t d = false := by unfold stabB; exact @decide_eq_false _ (Classical.propDecidable _) h
/-- a curer has no reason to ask -/
def CalmT (t : Trade) (d : List Int) (i : Nat) : Prop := (d.getD i 0 = -1 ∨ d.getD i 0 ∈ listAt t i) ∧ ∀ c : Nat, (c : Int) ∈ listAt t i → placeT t i c < placeT t i (d.getD i 0) → takesB t d i c = false
theorem calm_stable {t : Trade} {d : List Int} (hT : TradeOk t) (hd : d.length = t.cu.length) (hf : ∀ c, c < t.co.length → ((sellN d c).length : Int) ≤ roomAt t c) (h : ∀ i, i < t.cu.length → CalmT t d i) : StableT t d :=
  ⟨hd, fun i hi => (h i hi).1, hf, fun i c hi hc hp => (takes_not (hf c (own_lt hT hi hc))).mp ((h i hi).2 c hc hp)⟩
theorem not_stable {t : Trade} {d : List Int} (hT : TradeOk t) {i c : Nat} (hi : i < t.cu.length) (hc : (c : Int) ∈ listAt t i) (hp : placeT t i c < placeT t i (d.getD i 0)) (ht : takesB t d i c = true) : ¬ StableT t d := fun h => by
  have := (takes_not (h.few c (own_lt hT hi hc))).mpr (h.no i c hi hc hp)
  rw [this] at ht; cases ht
theorem takes_cases {t : Trade} {d : List Int} {i c : Nat} (hf : ((sellN d c).length : Int) ≤ roomAt t c) : (((sellN d c).length : Int) < roomAt t c ∧ takesB t d i c = true) ∨ (¬ ((sellN d c).length : Int) < roomAt t c ∧ 0 < (sellN d c).length ∧ takesB t d i c = decide (rankN t c i < rankN t c (worstN t c (sellN d c)))) ∨ (¬ ((sellN d c).length : Int) < roomAt t c ∧ (sellN d c).length = 0 ∧ takesB t d i c = false) := by
  unfold takesB
  by_cases h1 : ((sellN d c).length : Int) < roomAt t c
  · exact .inl ⟨h1, by simp [h1]⟩
  · by_cases h2 : 0 < (sellN d c).length
    · have h3 : 0 < roomAt t c := by omega
      exact .inr (.inl ⟨h1, h2, by simp [h1, h3]⟩)
    · have h3 : ¬ 0 < roomAt t c := by omega
      exact .inr (.inr ⟨h1, by omega, by simp [h1, h3]⟩)
theorem v71 (ctx : Ctx) (hC : CtxOk (pg ctx)) (t : Trade) (hT : TradeOk t) (hfl : ∀ p ∈ t.cu, p.1 = false) (d : List Int) (hd : d.length = t.cu.length) (hbd : ∀ i, i < t.cu.length → -1 ≤ d.getD i 0 ∧ d.getD i 0 < t.co.length) (h73 : H73 ctx t) (h40 : H40 ctx) (r1 r2 cl : Bool) :
    Valid Try.prog 71 [(r1, tradeF t), (r2, .sl cl 1 (ints d))] [.fv (.bool (stabB t d))] := by
  refine valid_of_ev (G := pg ctx) (tok ctx) hC mixed Try.func71 T71 L71 (by simp [Try.ntmps71]) ⟨_, rfl, ?_⟩
  have hrooms := hT.room
  have hn := hT.n
  have hm := hT.m
  unfold H73 at h73
  simp only [tradeF, cellsT] at h73
  simp only [Try.ntmps71, Try.results71, initSt, initEnv, tradeF, cellsT]
  refine ev_seq (ev_reg (by simp [boxA, vcells]; rfl) ?_)  -- region 0
  refine ev_seq (ev_seq (ev_reg (by simp; rfl) ?_))  -- region 1
  refine ev_block ?_  -- 0
  refine ev_loop (fun k : Nat => ({ env := [(1, V.fv r2 (FV.sl cl 1 (ints d))), (2, V.ptr 2 0), (5, V.fv false (.int .i64 k))], blk := [(2, Blk.box [V.fv r1 (FV.sl t.fc 1 (rowsF t.cu)), V.fv r1 (FV.sl t.fd 2 (ctrysF t.co))])] } : St)) (fun k => t.co.length - k) (fun k => k ≤ t.co.length ∧ ∀ c, c < k → ((sellN d c).length : Int) ≤ roomAt t c) 0 (by simp) ⟨Nat.zero_le _, fun c hc => absurd hc (Nat.not_lt_zero c)⟩ (by simp [R]; omega) (fun k hk => ?_)
  obtain ⟨hk, hfew⟩ := hk
  refine ev_seq (ev_seq (ev_reg (by simp; rfl) ?_))  -- region 2
  refine ev_cond rfl (fun hb => ?_) (fun hb => ?_)  -- 19
  · simp at hb
    have hw1 : IntKind.i64.wrap ((k : Int) + 1) = (k + 1 : Nat) := wrap_nat (n := k + 1) (by omega)
    have e73 := h73 d k hd hb
    have hroom := roomAt_get hb
    refine ev_skip ?_
    refine ev_seq (ev_block ?_)  -- 1
    refine ev_seq (ev_reg (by simp [e73]; rfl) ?_)  -- region 4
    refine ev_seq (ev_reg (by simp [hb, ctryF]; rfl) ?_)  -- region 5
    refine ev_cond rfl (fun hb2 => ?_) (fun hb2 => ?_)  -- 36
    · simp at hb2
      have hs := stabB_false (t := t) (d := d) (fun h => by have := h.few k hb; rw [hroom] at this; omega)
      refine ev_seq (ev_reg (by simp; rfl) ?_)  -- region 6
      refine ev_ret ?_
      simp [hs]
    · simp at hb2
      refine ev_skip ?_
      refine ev_reg (by simp [hw1]; rfl) ?_  -- region 3
      refine ⟨k + 1, by simp, ⟨by omega, fun c hc => ?_⟩, by omega⟩
      by_cases e : c = k
      · subst e; rw [hroom]; omega
      · exact hfew c (by omega)
  · simp at hb
    have hfew : ∀ c, c < t.co.length → ((sellN d c).length : Int) ≤ roomAt t c := fun c hc => hfew c (by omega)
    refine ev_exit ?_  -- 0
    refine ev_seq (ev_seq (ev_reg (by simp; rfl) ?_))  -- region 7
    refine ev_block ?_  -- 2
    refine ev_loop (fun i : Nat => ({ env := [(1, V.fv r2 (FV.sl cl 1 (ints d))), (2, V.ptr 2 0), (8, V.fv false (.int .i64 i))], blk := [(2, Blk.box [V.fv r1 (FV.sl t.fc 1 (rowsF t.cu)), V.fv r1 (FV.sl t.fd 2 (ctrysF t.co))])] } : St)) (fun i => t.cu.length - i) (fun i => i ≤ t.cu.length ∧ ∀ j, j < i → CalmT t d j) 0 (by simp) ⟨Nat.zero_le _, fun j hj => absurd hj (Nat.not_lt_zero j)⟩ (by simp [R]; omega) (fun i hi => ?_)
    obtain ⟨hi, hcalm⟩ := hi
    refine ev_seq (ev_seq (ev_reg (by simp; rfl) ?_))  -- region 8
    refine ev_cond rfl (fun hb => ?_) (fun hb => ?_)  -- 40
    · simp at hb
      have hin : i < t.cu.length := by omega
      have hw1 : IntKind.i64.wrap ((i : Int) + 1) = (i + 1 : Nat) := wrap_nat (n := i + 1) (by omega)
      obtain ⟨x, hgx, hgx2, hxl, hgx3⟩ : ∃ x, d.getD i 0 = x ∧ d[i]? = some x ∧ ∃ h : i < d.length, d[i] = x := ⟨d[i], by simp [List.getD_eq_getElem?_getD, List.getElem?_eq_getElem hb], List.getElem?_eq_getElem hb, hb, rfl⟩
      have hbx := hbd i hin
      have e40 := h40 (listAt t i) x (hT.row62 i)
      have hg : t.cu[i].2 = listAt t i := (listAt_get hin).symm
      have hflag : t.cu[i].1 = false := hfl _ (List.getElem_mem hin)
      have hlne : ¬ (false = true ∧ ints (listAt t i) = []) := fun h => by cases h.1
      refine ev_skip ?_
      refine ev_seq (ev_block ?_)  -- 3
      refine ev_seq (ev_reg (by simp [-asgA, hin, rowF, hg, hflag, asg_sl hlne]; rfl) ?_)  -- region 10
      refine ev_seq (ev_reg (by simp [hin, hb, hgx2, hgx3, e40]; rfl) ?_)  -- region 11
      refine ev_seq (ev_seq (ev_reg (by simp [hin, hb, hgx2, hgx3]; rfl) ?_))  -- region 12
      -- how many countries a curer likes better than theirs
      obtain ⟨z, hz⟩ : ∃ z, z = if x < 0 then ((listAt t i).length : Int) else idx (· == x) (listAt t i) := ⟨_, rfl⟩
      have hlen := hT.row i
      refine ev_cond rfl (fun hb => ?_) (fun hb => ?_)  -- 58
      have hz2 := hz
      rw [if_pos (by simpa using hb)] at hz2
      refine ev_reg (by simp; rfl) ?_  -- region 13
      rw [← hz2]
      clear hb hz2
      rotate_left
      have hz2 := hz
      rw [if_neg (by simpa using hb)] at hz2
      rw [← hz2]
      refine ev_skip ?_
      clear hb hz2
      all_goals
        refine ev_seq (ev_seq (ev_reg (by simp; rfl) ?_))  -- region 14
        by_cases hzneg : z < 0
        · refine ev_cond rfl (fun hb => ?_) (fun hb => by simp [hzneg] at hb)  -- 62
          have hs := stabB_false (t := t) (d := d) (fun h => by
            have h1 := h.own i hin
            rw [hgx] at h1
            by_cases h2 : x < 0
            · rw [if_pos h2] at hz; omega
            · rw [if_neg h2] at hz
              obtain ⟨k, -, h3⟩ := idx_at (h1.resolve_left (by omega))
              omega)
          refine ev_seq (ev_reg (by simp; rfl) ?_)  -- region 15
          refine ev_ret ?_
          simp [hs]
        · refine ev_cond rfl (fun hb => by simp [hzneg] at hb) (fun hb => ?_)  -- 62
          refine ev_skip ?_
          have hown : x = -1 ∨ x ∈ listAt t i := by
            by_cases h2 : x < 0
            · exact .inl (by omega)
            · rw [if_neg h2] at hz
              exact .inr (Classical.byContradiction fun h3 => by rw [idx_no h3] at hz; omega)
          have hzp : z = placeT t i x := by
            by_cases h2 : x < 0
            · rw [if_pos h2] at hz
              rw [hz, place_not (fun h3 => by have := (hT.cu i hin).2 _ h3; omega)]
            · rw [if_neg h2] at hz
              rw [hz, placeT, if_pos (by omega)]
          have hzl := (place_le t i x).2
          rw [← hzp] at hzl
          refine ev_seq (ev_reg (by simp; rfl) ?_)  -- region 16
          refine ev_block ?_  -- 4
          refine ev_loop (fun k : Nat => ({ env := [(1, V.fv r2 (FV.sl cl 1 (ints d))), (2, V.ptr 2 0), (8, V.fv false (FV.int .i64 i)), (9, V.fv r1 (FV.sl false 1 (ints (listAt t i)))), (10, V.fv false (FV.int .i64 z)), (11, V.fv false (.int .i64 k))], blk := [(2, Blk.box [V.fv r1 (FV.sl t.fc 1 (rowsF t.cu)), V.fv r1 (FV.sl t.fd 2 (ctrysF t.co))])] } : St)) (fun k => (z - k).toNat) (fun k => (k : Int) ≤ z ∧ ∀ c : Nat, (c : Int) ∈ listAt t i → placeT t i c < k → takesB t d i c = false) 0 (by simp) ⟨by simp only [Int.natCast_zero]; omega, fun c _ hc => by have := (place_le t i c).1; omega⟩ (by simp [R]; omega) (fun k hk => ?_)
          obtain ⟨hk, hbef⟩ := hk
          refine ev_seq (ev_seq (ev_reg (by simp; rfl) ?_))  -- region 17
          by_cases hkz : (k : Int) < z
          · refine ev_cond rfl (fun hb => ?_) (fun hb => by simp [hkz] at hb)  -- 65
            have hw2 : IntKind.i64.wrap ((k : Int) + 1) = (k + 1 : Nat) := wrap_nat (n := k + 1) (by omega)
            have hkl : k < (listAt t i).length := by omega
            obtain ⟨c, hc, hcm⟩ := list_nat hT hin (List.getElem_mem hkl)
            have hc2 : (listAt t i)[k]? = some (c : Int) := by rw [List.getElem?_eq_getElem hkl, hc]
            have e73 := h73 d c hd hcm
            have hroom := roomAt_get hcm
            have hlks := likesAt_get hcm
            have hpc := place_at hT hin hc2
            refine ev_skip ?_
            refine ev_seq (ev_block ?_)  -- 5
            refine ev_seq (ev_drw rfl (by kernel_rfl) (by kernel_rfl) (by simp [hkl, hc, hc2, hcm, ctryF, boxA, vcells]; rfl) ?_)  -- region 19
            refine ev_seq (ev_drw rfl (by kernel_rfl) (by kernel_rfl) (by simp [hkl, hc, hc2, e73]; rfl) ?_)  -- region 20
            have e40a := h40 (likesAt t c) i (likes62 hT hcm)
            have e40b := fun w : Nat => h40 (likesAt t c) w (likes62 hT hcm)
            rw [show idx (· == (i : Int)) (likesAt t c) = rankN t c i from rfl] at e40a
            have e40b : ∀ (w : Nat) (ro r2 c_1 : Bool), ctx 40 [(ro, .sl c_1 1 (ints (likesAt t c))), (r2, .int .i64 w)] = some [.fv (.int .i64 (rankN t c w))] := e40b
            rw [hlks] at e40a e40b
            have htc := takes_cases (t := t) (d := d) (i := i) (c := c) (hfew c hcm)
            rw [hroom] at htc
            obtain ⟨B, hB⟩ : ∃ B, takesB t d i c = B := ⟨_, rfl⟩
            rw [hB] at htc
            obtain ⟨n, hnn⟩ : ∃ n, (sellN d c).length = n := ⟨_, rfl⟩
            have hls : 0 < n → leastN t d c = (worstN t c (sellN d c) : Nat) := fun h => by rw [leastN, if_neg (by omega)]
            generalize worstN t c (sellN d c) = w at *
            rw [hnn] at htc
            rw [hnn]
            generalize leastN t d c = le at *
            refine ev_seq (ev_drw (σ' := { env := [(1, V.fv r2 (FV.sl cl 1 (ints d))), (2, V.ptr 2 0), (8, V.fv false (FV.int .i64 i)), (9, V.fv r1 (FV.sl false 1 (ints (listAt t i)))), (10, V.fv false (FV.int .i64 z)), (11, V.fv false (.int .i64 k)), (104, V.fv false (.bool B))], blk := [(2, Blk.box [V.fv r1 (FV.sl t.fc 1 (rowsF t.cu)), V.fv r1 (FV.sl t.fd 2 (ctrysF t.co))])] }) rfl (by kernel_rfl) (by kernel_rfl) (by
              rcases htc with ⟨h1, h2⟩ | ⟨h1, h2, h3⟩ | ⟨h1, h2, h3⟩
              · simp [unsetS, h1, h2]
              · have hn0 : (0 : Int) < n := by omega
                obtain ⟨P, hP⟩ : ∃ P, decide (rankN t c i < rankN t c w) = P := ⟨_, rfl⟩
                rw [hP] at h3
                simp [unsetS, h1, h2, hn0, hls h2, e40a, e40b w, hP, h3]
              · have h1' : ¬ (0 : Int) < t.co[c].1 := by omega
                simp [unsetS, h1', h2, h3]) ?_)  -- region 21
            cases B with
            | true =>
              have hs := stabB_false (not_stable (d := d) hT hin (c := c) (List.mem_of_getElem? hc2) (by rw [hgx, hpc, ← hzp]; exact hkz) hB)
              refine ev_cond rfl (fun hb => ?_) (fun hb => by simp at hb)  -- 104
              refine ev_seq (ev_reg (by simp; rfl) ?_)  -- region 22
              refine ev_ret ?_
              simp [hs]
            | false =>
              refine ev_cond rfl (fun hb => by simp at hb) (fun hb => ?_)  -- 104
              refine ev_skip ?_
              refine ev_reg (by simp [hw2]; rfl) ?_  -- region 18
              refine ⟨k + 1, by simp, ⟨by omega, fun c' hc' hp' => ?_⟩, by omega⟩
              by_cases e : placeT t i c' < k
              · exact hbef c' hc' e
              · obtain ⟨j, h1, h2⟩ := place_mem hc'
                have : j = k := by omega
                subst this
                have : c' = c := by have := h1.symm.trans hc2; simp only [Option.some.injEq] at this; omega
                subst this
                exact hB
          · refine ev_cond rfl (fun hb => by simp [hkz] at hb) (fun hb => ?_)  -- 65
            refine ev_exit ?_  -- 4
            refine ev_reg (by simp [hw1]; rfl) ?_  -- region 9
            refine ⟨i + 1, by simp, ⟨by omega, fun j hj => ?_⟩, by omega⟩
            by_cases e : j = i
            · subst e
              refine ⟨by rw [hgx]; exact hown, fun c' hc' hp' => hbef c' hc' ?_⟩
              rw [hgx, ← hzp] at hp'
              omega
            · exact hcalm j (by omega)
    · simp at hb
      refine ev_exit ?_  -- 2
      have hs := stabB_true (calm_stable hT hd hfew (fun i hi => hcalm i (by omega)))
      refine ev_seq (ev_reg (by simp; rfl) ?_)  -- region 23
      refine ev_ret ?_
      simp [hs]
end Go.Proofs.Ytoafhoihigfllaa.E
