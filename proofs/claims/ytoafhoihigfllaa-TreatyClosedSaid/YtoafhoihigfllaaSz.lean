/-
  The chapter of the treaty: the law of the country that closes, or opens: the walk. Conditions: none.
-/
import Derived.Test.YtoafhoihigfllaaSu
import Derived.Test.YtoafhoihigfllaaFg
namespace Go.Proofs.Ytoafhoihigfllaa.E
open Go Go.RowKit
set_option linter.unusedVariables false
set_option linter.unusedSimpArgs false
def T13x : List (Nat × Plan) := [(8, [([7], []), ([42], []), ([5], []), ([2], []), ([45], []), ([5], []), ([46, 47], []), ([48], []), ([49], []), ([50], []), ([51], []), ([43, 44], []), ([53], [])]), (17, [([2], [120, 127, 136, 143]), ([14], [120, 127, 136, 143]), ([10], [120, 127, 136, 143]), ([14], [120, 127, 136, 143]), ([116, 117], [120, 127, 136, 143]), ([118], [120, 127, 136, 143]), ([114, 115, 119], [127, 136, 143]), ([2], [120, 127, 136, 143]), ([14], [120, 127, 136, 143]), ([8], [120, 127, 136, 143]), ([14], [120, 127, 136, 143]), ([123, 124], [120, 127, 136, 143]), ([125], [120, 127, 136, 143]), ([121, 122, 126], [136, 143]), ([120, 127], [136, 143]), ([128], [136, 143]), ([2, 129], [136, 143]), ([14, 129], [136, 143]), ([12, 129], [136, 143]), ([14, 129], [136, 143]), ([132, 133, 129], [136, 143]), ([134, 129], [136, 143]), ([130, 131, 135, 129], [143]), ([2, 129], [136, 143]), ([14, 129], [136, 143]), ([8, 129], [136, 143]), ([14, 129], [136, 143]), ([139, 140, 129], [136, 143]), ([141, 129], [136, 143]), ([137, 138, 142, 129], []), ([136, 143, 129], []), ([129, 144], [])])]
/-- a trade in which a country has other room -/
def withR (t : Trade) (c : Nat) (r : Int) : Trade := ⟨t.fc, t.cu, t.fd, t.co.set c (r, (t.co.getD c (0, false, [])).2)⟩
theorem withR_room {t : Trade} {c : Nat} (hc : c < t.co.length) (r : Int) (k : Nat) : roomAt (withR t c r) k = if c = k then r else roomAt t k := by
  unfold roomAt withR
  simp only
  rw [List.getD_eq_getElem?_getD, List.getElem?_set]
  split
  · rename_i e; subst e; simp [hc]
  · rw [List.getD_eq_getElem?_getD]
theorem withR_likes {t : Trade} {c : Nat} (r : Int) (k : Nat) : likesAt (withR t c r) k = likesAt t k := by
  unfold likesAt withR
  simp only
  rw [List.getD_eq_getElem?_getD, List.getElem?_set]
  split
  · rename_i e; subst e
    split
    · rfl
    · rename_i h; simp [List.getD_eq_getElem?_getD, List.getElem?_eq_none (Nat.le_of_not_lt h)]
  · rw [List.getD_eq_getElem?_getD]
theorem withR_list (t : Trade) (c : Nat) (r : Int) (i : Nat) : listAt (withR t c r) i = listAt t i := rfl
theorem withR_ok {t : Trade} (hT : TradeOk t) {c : Nat} (hc : c < t.co.length) {r : Int} (hr : 0 ≤ r ∧ r ≤ 8) : TradeOk (withR t c r) := by
  have hm : (withR t c r).co.length = t.co.length := by simp [withR]
  refine ⟨hT.n, by rw [hm]; exact hT.m, fun i hi => ?_, fun k hk => ?_, fun k hk => ?_⟩
  · rw [hm, withR_list]; exact hT.cu i hi
  · rw [withR_room hc]
    split
    · exact hr
    · exact hT.room k (by rw [← hm]; exact hk)
  · rw [withR_likes]; exact hT.likes k (by rw [← hm]; exact hk)
theorem withR_47 {t : Trade} (ht : Trade47 t) (c : Nat) (r : Int) : Trade47 (withR t c r) := by
  refine ⟨ht.cul, by simp only [withR, List.length_set]; exact ht.col, ht.cu, fun p hp => ?_⟩
  rcases List.mem_or_eq_of_mem_set hp with h | h
  · exact ht.co p h
  · rw [h]
    simp only
    by_cases hc : c < t.co.length
    · rw [show t.co.getD c (0, false, []) = t.co[c] from by simp [List.getD_eq_getElem?_getD, List.getElem?_eq_getElem hc]]
      exact ht.co _ (List.getElem_mem hc)
    · simp [List.getD_eq_getElem?_getD, List.getElem?_eq_none (Nat.le_of_not_lt hc)]
theorem withR_less {t : Trade} {c : Nat} (hc : c < t.co.length) {r : Int} (hr : r ≤ roomAt t c) : Roomy (withR t c r) t := by
  refine ⟨rfl, by simp [withR], fun i => rfl, fun k hk => ?_, fun k => withR_likes r k⟩
  rw [withR_room hc]
  split
  · rename_i e; subst e; exact hr
  · exact Int.le_refl _
theorem withR_more {t : Trade} {c : Nat} (hc : c < t.co.length) {r : Int} (hr : roomAt t c ≤ r) : Roomy t (withR t c r) := by
  refine ⟨rfl, by simp [withR], fun i => rfl, fun k hk => ?_, fun k => (withR_likes r k).symm⟩
  rw [withR_room hc]
  split
  · rename_i e; subst e; exact hr
  · exact Int.le_refl _
theorem v13 (ctx : Ctx) (hC : CtxOk (pgd ctx)) (t : Trade) (hfd : t.fd = false) (hlen : t.co.length * 32 ≤ 140737488355328) (a : Int) (r1 : Bool) (h43 : ctx 43 [(false, tradeF t)] = some [.fv (.bool (okTrade t))]) (h37 : H37 ctx) (h34 : H34 ctx t) (h34x : ∀ c r, H34 ctx (withR t c r)) (h45 : okTrade t = true → H45 ctx t) (h46 : H46 ctx) (h20 : ctx 20 [] = some [.fv (.bool true)]) :
    Valid Try.prog 13 [(false, tradeF t), (r1, .int .i64 a)] [.fv (.bool true)] := by
  refine valid_of_evC (G := pgd ctx) (tokd ctx) hC mixed Try.func13 T13x L13 (by simp [Try.ntmps13]) ⟨_, rfl, ?_⟩
  simp only [Try.ntmps13, Try.results13, initSt, initEnv]
  unfold H34 at h34
  simp only [tradeF, cellsT] at h43 h34 ⊢
  cases hok : okTrade t with
  | false =>
    rw [hok] at h43
    refine ev_seq (ev_reg (by simp [boxA, vcells]; rfl) ?_)  -- region 0
    refine ev_seq (ev_seq (ev_reg (by simp [h43]; rfl) ?_))  -- region 1
    refine ev_cond rfl (fun hb => ?_) (fun hb => by simp at hb)  -- 18
    refine ev_seq (ev_reg (by simp [h20]; rfl) ?_)  -- region 2
    refine ev_ret ?_
    simp
  | true =>
    have hT := okTrade_iff.mp hok
    have hn := hT.n
    have hm := hT.m
    rw [hok] at h43
    have h45 := h45 hok
    unfold H45 at h45
    simp only [tradeF, cellsT] at h45
    have e37a := h37 a t.co.length (by omega)
    have hma := modI_bound a t.co.length (by omega) (by omega)
    obtain ⟨c, hc⟩ : ∃ c : Nat, modI a t.co.length = (c : Int) := ⟨(modI a t.co.length).toNat, by omega⟩
    rw [hc] at e37a hma
    have hcm : c < t.co.length := by omega
    have hroom := roomAt_get hcm
    have hr8 := hT.room c hcm
    obtain ⟨R1, hR1⟩ : ∃ R1 : Int, R1 = min 8 (roomAt t c + 1) := ⟨_, rfl⟩
    have hX := withR_ok hT hcm (r := 0) (by omega)
    have hY := withR_ok hT hcm (r := R1) (by omega)
    have hokx := okTrade_iff.mpr hX
    have hoky := okTrade_iff.mpr hY
    have hB := dealsOf_best hT
    have hBx := dealsOf_best hX
    have hBy := dealsOf_best hY
    obtain ⟨hx1, hx2⟩ := closed hX hT (withR_less hcm hr8.1) hB hBx
    obtain ⟨hy1, -⟩ := closed hT hY (withR_more hcm (by omega)) hBy hB
    have h34a := h34x c 0
    have h34b := h34x c R1
    unfold H34 at h34a h34b
    rw [dealsW, codeT, hokx] at h34a
    rw [dealsW, codeT, hoky] at h34b
    rw [dealsW, codeT, hok] at h34
    simp only [if_true] at h34 h34a h34b
    have hml : (dealsOf (withR t c 0)).length = t.cu.length := hBx.st.len
    have hnl : (dealsOf (withR t c R1)).length = t.cu.length := hBy.st.len
    have hll := hB.st.len
    have hzero : manyN (dealsOf (withR t c 0)) c = 0 := by
      have := hBx.st.few c (by simp [withR]; exact hcm)
      rw [withR_room hcm, if_pos rfl] at this
      rw [manyN]; omega
    have hx2 : ∀ k, k < t.co.length → k ≠ c → manyN (dealsOf t) k ≤ manyN (dealsOf (withR t c 0)) k := fun k hk hkc => hx2 k hk (by rw [withR_room hcm, if_neg (Ne.symm hkc)])
    have hy1 : ∀ i, i < t.cu.length → placeT t i ((dealsOf (withR t c R1)).getD i 0) ≤ placeT t i ((dealsOf t).getD i 0) := hy1
    generalize dealsOf (withR t c 0) = m at *
    generalize dealsOf (withR t c R1) = n at *
    generalize dealsOf t = l at *
    simp only [tradeF, cellsT, withR, hfd] at h34a h34b
    have hg : t.co.getD c (0, false, []) = t.co[c] := by simp [List.getD_eq_getElem?_getD, List.getElem?_eq_getElem hcm]
    rw [hg] at h34a h34b
    have hset : ∀ r : Int, List.take t.co.length ((ctrysF t.co).set c (FV.agg [FV.int .i64 r, FV.sl t.co[c].2.1 1 (ints t.co[c].2.2)])) = ctrysF (t.co.set c (r, t.co[c].2)) := fun r => by
      rw [List.take_of_length_le (by simp)]
      simp [ctrysF, ctryF, List.map_set]
    have hkr : (ctrysF t.co)[c]? = some (ctryF t.co[c]) := by simp [hcm]
    have hw1 : IntKind.i64.wrap (t.co[c].1 + 1) = t.co[c].1 + 1 := by rw [← hroom]; exact wrap_id (by omega) (by omega)
    have e46a := h46 m c (by omega)
    rw [hzero] at e46a
    refine ev_seq (ev_reg (by simp [boxA, vcells]; rfl) ?_)  -- region 0
    refine ev_seq (ev_seq (ev_reg (by simp [h43]; rfl) ?_))  -- region 1
    refine ev_cond rfl (fun hb => by simp at hb) (fun hb => ?_)  -- 18
    refine ev_skip ?_
    refine ev_seq (ev_reg (by simp [e37a]; rfl) ?_)  -- region 3
    refine ev_seq (ev_all rfl { env := [(2, V.ptr 2 0), (5, V.fv false (FV.int .i64 c)), (6, V.ptr 6 0), (7, V.ptr 7 0), (25, V.fv false (FV.agg [FV.sl t.fc 1 (rowsF t.cu), FV.sl t.fd 2 (ctrysF t.co)])), (26, V.fv false (FV.agg [FV.sl t.fc 1 (rowsF t.cu), FV.sl t.fd 2 (ctrysF t.co)]))], blk := [(2, Blk.box [V.fv false (FV.sl t.fc 1 (rowsF t.cu)), V.fv false (FV.sl t.fd 2 (ctrysF t.co))]), (6, Blk.box [V.fv false (FV.sl t.fc 1 (rowsF t.cu)), V.fv false (FV.sl t.fd 2 (ctrysF t.co))]), (7, Blk.box [V.fv false (FV.sl t.fc 1 (rowsF t.cu)), V.fv false (FV.sl t.fd 2 (ctrysF t.co))])] } (by
      refine allR_step (l := [0, 1, 2, 3]) (by kernel_rfl) (by simp) ?_
      refine ⟨?_, ?_, ?_, ?_, trivial⟩
      · refine ⟨_, _, rfl, by simp [step1]; rfl, ?_⟩
        refine allR_step (l := [1, 2, 3]) (by kernel_rfl) (by simp) ?_
        refine ⟨?_, ?_, ?_, trivial⟩
        · refine ⟨_, _, rfl, by simp [step1]; rfl, ?_⟩
          refine allR_step (l := [2, 3]) (by kernel_rfl) (by simp) ?_
          refine ⟨?_, ?_, trivial⟩
          · refine ⟨_, _, rfl, by simp [step1]; rfl, ?_⟩
            refine allR_step (l := [3]) (by kernel_rfl) (by simp) ?_
            refine ⟨?_, trivial⟩
            refine ⟨_, _, rfl, by simp [step1]; rfl, ?_⟩
            refine allR_step (l := [4]) (by kernel_rfl) (by simp) ?_
            refine ⟨?_, trivial⟩
            refine ⟨_, _, rfl, by simp [step1]; rfl, ?_⟩
            refine allR_step (l := [5]) (by kernel_rfl) (by simp) ?_
            refine ⟨?_, trivial⟩
            refine ⟨_, _, rfl, by simp [step1]; rfl, ?_⟩
            exact ⟨by kernel_rfl, rfl⟩
          · refine ⟨_, _, rfl, by simp [step1]; rfl, ?_⟩
            refine allR_step (l := [2]) (by kernel_rfl) (by simp) ?_
            refine ⟨?_, trivial⟩
            refine ⟨_, _, rfl, by simp [step1]; rfl, ?_⟩
            refine allR_step (l := [4]) (by kernel_rfl) (by simp) ?_
            refine ⟨?_, trivial⟩
            refine ⟨_, _, rfl, by simp [step1]; rfl, ?_⟩
            refine allR_step (l := [5]) (by kernel_rfl) (by simp) ?_
            refine ⟨?_, trivial⟩
            refine ⟨_, _, rfl, by simp [step1]; rfl, ?_⟩
            exact ⟨by kernel_rfl, rfl⟩
        · refine ⟨_, _, rfl, by simp [step1]; rfl, ?_⟩
          refine allR_step (l := [1, 3]) (by kernel_rfl) (by simp) ?_
          refine ⟨?_, ?_, trivial⟩
          · refine ⟨_, _, rfl, by simp [step1]; rfl, ?_⟩
            refine allR_step (l := [3]) (by kernel_rfl) (by simp) ?_
            refine ⟨?_, trivial⟩
            refine ⟨_, _, rfl, by simp [step1]; rfl, ?_⟩
            refine allR_step (l := [4]) (by kernel_rfl) (by simp) ?_
            refine ⟨?_, trivial⟩
            refine ⟨_, _, rfl, by simp [step1]; rfl, ?_⟩
            refine allR_step (l := [5]) (by kernel_rfl) (by simp) ?_
            refine ⟨?_, trivial⟩
            refine ⟨_, _, rfl, by simp [step1]; rfl, ?_⟩
            exact ⟨by kernel_rfl, rfl⟩
          · refine ⟨_, _, rfl, by simp [step1]; rfl, ?_⟩
            refine allR_step (l := [1, 4]) (by kernel_rfl) (by simp) ?_
            refine ⟨?_, ?_, trivial⟩
            · refine ⟨_, _, rfl, by simp [step1]; rfl, ?_⟩
              refine allR_step (l := [4]) (by kernel_rfl) (by simp) ?_
              refine ⟨?_, trivial⟩
              refine ⟨_, _, rfl, by simp [step1]; rfl, ?_⟩
              refine allR_step (l := [5]) (by kernel_rfl) (by simp) ?_
              refine ⟨?_, trivial⟩
              refine ⟨_, _, rfl, by simp [step1]; rfl, ?_⟩
              exact ⟨by kernel_rfl, rfl⟩
            · refine ⟨_, _, rfl, by simp [step1]; rfl, ?_⟩
              refine allR_step (l := [1]) (by kernel_rfl) (by simp) ?_
              refine ⟨?_, trivial⟩
              refine ⟨_, _, rfl, by simp [step1]; rfl, ?_⟩
              refine allR_step (l := [5]) (by kernel_rfl) (by simp) ?_
              refine ⟨?_, trivial⟩
              refine ⟨_, _, rfl, by simp [step1]; rfl, ?_⟩
              exact ⟨by kernel_rfl, rfl⟩
        · refine ⟨_, _, rfl, by simp [step1]; rfl, ?_⟩
          refine allR_step (l := [1, 2]) (by kernel_rfl) (by simp) ?_
          refine ⟨?_, ?_, trivial⟩
          · refine ⟨_, _, rfl, by simp [step1]; rfl, ?_⟩
            refine allR_step (l := [2]) (by kernel_rfl) (by simp) ?_
            refine ⟨?_, trivial⟩
            refine ⟨_, _, rfl, by simp [step1]; rfl, ?_⟩
            refine allR_step (l := [4]) (by kernel_rfl) (by simp) ?_
            refine ⟨?_, trivial⟩
            refine ⟨_, _, rfl, by simp [step1]; rfl, ?_⟩
            refine allR_step (l := [5]) (by kernel_rfl) (by simp) ?_
            refine ⟨?_, trivial⟩
            refine ⟨_, _, rfl, by simp [step1]; rfl, ?_⟩
            exact ⟨by kernel_rfl, rfl⟩
          · refine ⟨_, _, rfl, by simp [step1]; rfl, ?_⟩
            refine allR_step (l := [1, 4]) (by kernel_rfl) (by simp) ?_
            refine ⟨?_, ?_, trivial⟩
            · refine ⟨_, _, rfl, by simp [step1]; rfl, ?_⟩
              refine allR_step (l := [4]) (by kernel_rfl) (by simp) ?_
              refine ⟨?_, trivial⟩
              refine ⟨_, _, rfl, by simp [step1]; rfl, ?_⟩
              refine allR_step (l := [5]) (by kernel_rfl) (by simp) ?_
              refine ⟨?_, trivial⟩
              refine ⟨_, _, rfl, by simp [step1]; rfl, ?_⟩
              exact ⟨by kernel_rfl, rfl⟩
            · refine ⟨_, _, rfl, by simp [step1]; rfl, ?_⟩
              refine allR_step (l := [1]) (by kernel_rfl) (by simp) ?_
              refine ⟨?_, trivial⟩
              refine ⟨_, _, rfl, by simp [step1]; rfl, ?_⟩
              refine allR_step (l := [5]) (by kernel_rfl) (by simp) ?_
              refine ⟨?_, trivial⟩
              refine ⟨_, _, rfl, by simp [step1]; rfl, ?_⟩
              exact ⟨by kernel_rfl, rfl⟩
      · refine ⟨_, _, rfl, by simp [step1]; rfl, ?_⟩
        refine allR_step (l := [0, 2, 3]) (by kernel_rfl) (by simp) ?_
        refine ⟨?_, ?_, ?_, trivial⟩
        · refine ⟨_, _, rfl, by simp [step1]; rfl, ?_⟩
          refine allR_step (l := [2, 3]) (by kernel_rfl) (by simp) ?_
          refine ⟨?_, ?_, trivial⟩
          · refine ⟨_, _, rfl, by simp [step1]; rfl, ?_⟩
            refine allR_step (l := [3]) (by kernel_rfl) (by simp) ?_
            refine ⟨?_, trivial⟩
            refine ⟨_, _, rfl, by simp [step1]; rfl, ?_⟩
            refine allR_step (l := [4]) (by kernel_rfl) (by simp) ?_
            refine ⟨?_, trivial⟩
            refine ⟨_, _, rfl, by simp [step1]; rfl, ?_⟩
            refine allR_step (l := [5]) (by kernel_rfl) (by simp) ?_
            refine ⟨?_, trivial⟩
            refine ⟨_, _, rfl, by simp [step1]; rfl, ?_⟩
            exact ⟨by kernel_rfl, rfl⟩
          · refine ⟨_, _, rfl, by simp [step1]; rfl, ?_⟩
            refine allR_step (l := [2]) (by kernel_rfl) (by simp) ?_
            refine ⟨?_, trivial⟩
            refine ⟨_, _, rfl, by simp [step1]; rfl, ?_⟩
            refine allR_step (l := [4]) (by kernel_rfl) (by simp) ?_
            refine ⟨?_, trivial⟩
            refine ⟨_, _, rfl, by simp [step1]; rfl, ?_⟩
            refine allR_step (l := [5]) (by kernel_rfl) (by simp) ?_
            refine ⟨?_, trivial⟩
            refine ⟨_, _, rfl, by simp [step1]; rfl, ?_⟩
            exact ⟨by kernel_rfl, rfl⟩
        · refine ⟨_, _, rfl, by simp [step1]; rfl, ?_⟩
          refine allR_step (l := [0, 3]) (by kernel_rfl) (by simp) ?_
          refine ⟨?_, ?_, trivial⟩
          · refine ⟨_, _, rfl, by simp [step1]; rfl, ?_⟩
            refine allR_step (l := [3]) (by kernel_rfl) (by simp) ?_
            refine ⟨?_, trivial⟩
            refine ⟨_, _, rfl, by simp [step1]; rfl, ?_⟩
            refine allR_step (l := [4]) (by kernel_rfl) (by simp) ?_
            refine ⟨?_, trivial⟩
            refine ⟨_, _, rfl, by simp [step1]; rfl, ?_⟩
            refine allR_step (l := [5]) (by kernel_rfl) (by simp) ?_
            refine ⟨?_, trivial⟩
            refine ⟨_, _, rfl, by simp [step1]; rfl, ?_⟩
            exact ⟨by kernel_rfl, rfl⟩
          · refine ⟨_, _, rfl, by simp [step1]; rfl, ?_⟩
            refine allR_step (l := [0]) (by kernel_rfl) (by simp) ?_
            refine ⟨?_, trivial⟩
            refine ⟨_, _, rfl, by simp [step1]; rfl, ?_⟩
            refine allR_step (l := [4]) (by kernel_rfl) (by simp) ?_
            refine ⟨?_, trivial⟩
            refine ⟨_, _, rfl, by simp [step1]; rfl, ?_⟩
            refine allR_step (l := [5]) (by kernel_rfl) (by simp) ?_
            refine ⟨?_, trivial⟩
            refine ⟨_, _, rfl, by simp [step1]; rfl, ?_⟩
            exact ⟨by kernel_rfl, rfl⟩
        · refine ⟨_, _, rfl, by simp [step1]; rfl, ?_⟩
          refine allR_step (l := [0, 2]) (by kernel_rfl) (by simp) ?_
          refine ⟨?_, ?_, trivial⟩
          · refine ⟨_, _, rfl, by simp [step1]; rfl, ?_⟩
            refine allR_step (l := [2]) (by kernel_rfl) (by simp) ?_
            refine ⟨?_, trivial⟩
            refine ⟨_, _, rfl, by simp [step1]; rfl, ?_⟩
            refine allR_step (l := [4]) (by kernel_rfl) (by simp) ?_
            refine ⟨?_, trivial⟩
            refine ⟨_, _, rfl, by simp [step1]; rfl, ?_⟩
            refine allR_step (l := [5]) (by kernel_rfl) (by simp) ?_
            refine ⟨?_, trivial⟩
            refine ⟨_, _, rfl, by simp [step1]; rfl, ?_⟩
            exact ⟨by kernel_rfl, rfl⟩
          · refine ⟨_, _, rfl, by simp [step1]; rfl, ?_⟩
            refine allR_step (l := [0]) (by kernel_rfl) (by simp) ?_
            refine ⟨?_, trivial⟩
            refine ⟨_, _, rfl, by simp [step1]; rfl, ?_⟩
            refine allR_step (l := [4]) (by kernel_rfl) (by simp) ?_
            refine ⟨?_, trivial⟩
            refine ⟨_, _, rfl, by simp [step1]; rfl, ?_⟩
            refine allR_step (l := [5]) (by kernel_rfl) (by simp) ?_
            refine ⟨?_, trivial⟩
            refine ⟨_, _, rfl, by simp [step1]; rfl, ?_⟩
            exact ⟨by kernel_rfl, rfl⟩
      · refine ⟨_, _, rfl, by simp [step1]; rfl, ?_⟩
        refine allR_step (l := [0, 1, 3]) (by kernel_rfl) (by simp) ?_
        refine ⟨?_, ?_, ?_, trivial⟩
        · refine ⟨_, _, rfl, by simp [step1]; rfl, ?_⟩
          refine allR_step (l := [1, 3]) (by kernel_rfl) (by simp) ?_
          refine ⟨?_, ?_, trivial⟩
          · refine ⟨_, _, rfl, by simp [step1]; rfl, ?_⟩
            refine allR_step (l := [3]) (by kernel_rfl) (by simp) ?_
            refine ⟨?_, trivial⟩
            refine ⟨_, _, rfl, by simp [step1]; rfl, ?_⟩
            refine allR_step (l := [4]) (by kernel_rfl) (by simp) ?_
            refine ⟨?_, trivial⟩
            refine ⟨_, _, rfl, by simp [step1]; rfl, ?_⟩
            refine allR_step (l := [5]) (by kernel_rfl) (by simp) ?_
            refine ⟨?_, trivial⟩
            refine ⟨_, _, rfl, by simp [step1]; rfl, ?_⟩
            exact ⟨by kernel_rfl, rfl⟩
          · refine ⟨_, _, rfl, by simp [step1]; rfl, ?_⟩
            refine allR_step (l := [1, 4]) (by kernel_rfl) (by simp) ?_
            refine ⟨?_, ?_, trivial⟩
            · refine ⟨_, _, rfl, by simp [step1]; rfl, ?_⟩
              refine allR_step (l := [4]) (by kernel_rfl) (by simp) ?_
              refine ⟨?_, trivial⟩
              refine ⟨_, _, rfl, by simp [step1]; rfl, ?_⟩
              refine allR_step (l := [5]) (by kernel_rfl) (by simp) ?_
              refine ⟨?_, trivial⟩
              refine ⟨_, _, rfl, by simp [step1]; rfl, ?_⟩
              exact ⟨by kernel_rfl, rfl⟩
            · refine ⟨_, _, rfl, by simp [step1]; rfl, ?_⟩
              refine allR_step (l := [1]) (by kernel_rfl) (by simp) ?_
              refine ⟨?_, trivial⟩
              refine ⟨_, _, rfl, by simp [step1]; rfl, ?_⟩
              refine allR_step (l := [5]) (by kernel_rfl) (by simp) ?_
              refine ⟨?_, trivial⟩
              refine ⟨_, _, rfl, by simp [step1]; rfl, ?_⟩
              exact ⟨by kernel_rfl, rfl⟩
        · refine ⟨_, _, rfl, by simp [step1]; rfl, ?_⟩
          refine allR_step (l := [0, 3]) (by kernel_rfl) (by simp) ?_
          refine ⟨?_, ?_, trivial⟩
          · refine ⟨_, _, rfl, by simp [step1]; rfl, ?_⟩
            refine allR_step (l := [3]) (by kernel_rfl) (by simp) ?_
            refine ⟨?_, trivial⟩
            refine ⟨_, _, rfl, by simp [step1]; rfl, ?_⟩
            refine allR_step (l := [4]) (by kernel_rfl) (by simp) ?_
            refine ⟨?_, trivial⟩
            refine ⟨_, _, rfl, by simp [step1]; rfl, ?_⟩
            refine allR_step (l := [5]) (by kernel_rfl) (by simp) ?_
            refine ⟨?_, trivial⟩
            refine ⟨_, _, rfl, by simp [step1]; rfl, ?_⟩
            exact ⟨by kernel_rfl, rfl⟩
          · refine ⟨_, _, rfl, by simp [step1]; rfl, ?_⟩
            refine allR_step (l := [0]) (by kernel_rfl) (by simp) ?_
            refine ⟨?_, trivial⟩
            refine ⟨_, _, rfl, by simp [step1]; rfl, ?_⟩
            refine allR_step (l := [4]) (by kernel_rfl) (by simp) ?_
            refine ⟨?_, trivial⟩
            refine ⟨_, _, rfl, by simp [step1]; rfl, ?_⟩
            refine allR_step (l := [5]) (by kernel_rfl) (by simp) ?_
            refine ⟨?_, trivial⟩
            refine ⟨_, _, rfl, by simp [step1]; rfl, ?_⟩
            exact ⟨by kernel_rfl, rfl⟩
        · refine ⟨_, _, rfl, by simp [step1]; rfl, ?_⟩
          refine allR_step (l := [0, 1]) (by kernel_rfl) (by simp) ?_
          refine ⟨?_, ?_, trivial⟩
          · refine ⟨_, _, rfl, by simp [step1]; rfl, ?_⟩
            refine allR_step (l := [1, 4]) (by kernel_rfl) (by simp) ?_
            refine ⟨?_, ?_, trivial⟩
            · refine ⟨_, _, rfl, by simp [step1]; rfl, ?_⟩
              refine allR_step (l := [4]) (by kernel_rfl) (by simp) ?_
              refine ⟨?_, trivial⟩
              refine ⟨_, _, rfl, by simp [step1]; rfl, ?_⟩
              refine allR_step (l := [5]) (by kernel_rfl) (by simp) ?_
              refine ⟨?_, trivial⟩
              refine ⟨_, _, rfl, by simp [step1]; rfl, ?_⟩
              exact ⟨by kernel_rfl, rfl⟩
            · refine ⟨_, _, rfl, by simp [step1]; rfl, ?_⟩
              refine allR_step (l := [1]) (by kernel_rfl) (by simp) ?_
              refine ⟨?_, trivial⟩
              refine ⟨_, _, rfl, by simp [step1]; rfl, ?_⟩
              refine allR_step (l := [5]) (by kernel_rfl) (by simp) ?_
              refine ⟨?_, trivial⟩
              refine ⟨_, _, rfl, by simp [step1]; rfl, ?_⟩
              exact ⟨by kernel_rfl, rfl⟩
          · refine ⟨_, _, rfl, by simp [step1]; rfl, ?_⟩
            refine allR_step (l := [0]) (by kernel_rfl) (by simp) ?_
            refine ⟨?_, trivial⟩
            refine ⟨_, _, rfl, by simp [step1]; rfl, ?_⟩
            refine allR_step (l := [4]) (by kernel_rfl) (by simp) ?_
            refine ⟨?_, trivial⟩
            refine ⟨_, _, rfl, by simp [step1]; rfl, ?_⟩
            refine allR_step (l := [5]) (by kernel_rfl) (by simp) ?_
            refine ⟨?_, trivial⟩
            refine ⟨_, _, rfl, by simp [step1]; rfl, ?_⟩
            exact ⟨by kernel_rfl, rfl⟩
      · refine ⟨_, _, rfl, by simp [step1]; rfl, ?_⟩
        refine allR_step (l := [0, 1, 2]) (by kernel_rfl) (by simp) ?_
        refine ⟨?_, ?_, ?_, trivial⟩
        · refine ⟨_, _, rfl, by simp [step1]; rfl, ?_⟩
          refine allR_step (l := [1, 2]) (by kernel_rfl) (by simp) ?_
          refine ⟨?_, ?_, trivial⟩
          · refine ⟨_, _, rfl, by simp [step1]; rfl, ?_⟩
            refine allR_step (l := [2]) (by kernel_rfl) (by simp) ?_
            refine ⟨?_, trivial⟩
            refine ⟨_, _, rfl, by simp [step1]; rfl, ?_⟩
            refine allR_step (l := [4]) (by kernel_rfl) (by simp) ?_
            refine ⟨?_, trivial⟩
            refine ⟨_, _, rfl, by simp [step1]; rfl, ?_⟩
            refine allR_step (l := [5]) (by kernel_rfl) (by simp) ?_
            refine ⟨?_, trivial⟩
            refine ⟨_, _, rfl, by simp [step1]; rfl, ?_⟩
            exact ⟨by kernel_rfl, rfl⟩
          · refine ⟨_, _, rfl, by simp [step1]; rfl, ?_⟩
            refine allR_step (l := [1, 4]) (by kernel_rfl) (by simp) ?_
            refine ⟨?_, ?_, trivial⟩
            · refine ⟨_, _, rfl, by simp [step1]; rfl, ?_⟩
              refine allR_step (l := [4]) (by kernel_rfl) (by simp) ?_
              refine ⟨?_, trivial⟩
              refine ⟨_, _, rfl, by simp [step1]; rfl, ?_⟩
              refine allR_step (l := [5]) (by kernel_rfl) (by simp) ?_
              refine ⟨?_, trivial⟩
              refine ⟨_, _, rfl, by simp [step1]; rfl, ?_⟩
              exact ⟨by kernel_rfl, rfl⟩
            · refine ⟨_, _, rfl, by simp [step1]; rfl, ?_⟩
              refine allR_step (l := [1]) (by kernel_rfl) (by simp) ?_
              refine ⟨?_, trivial⟩
              refine ⟨_, _, rfl, by simp [step1]; rfl, ?_⟩
              refine allR_step (l := [5]) (by kernel_rfl) (by simp) ?_
              refine ⟨?_, trivial⟩
              refine ⟨_, _, rfl, by simp [step1]; rfl, ?_⟩
              exact ⟨by kernel_rfl, rfl⟩
        · refine ⟨_, _, rfl, by simp [step1]; rfl, ?_⟩
          refine allR_step (l := [0, 2]) (by kernel_rfl) (by simp) ?_
          refine ⟨?_, ?_, trivial⟩
          · refine ⟨_, _, rfl, by simp [step1]; rfl, ?_⟩
            refine allR_step (l := [2]) (by kernel_rfl) (by simp) ?_
            refine ⟨?_, trivial⟩
            refine ⟨_, _, rfl, by simp [step1]; rfl, ?_⟩
            refine allR_step (l := [4]) (by kernel_rfl) (by simp) ?_
            refine ⟨?_, trivial⟩
            refine ⟨_, _, rfl, by simp [step1]; rfl, ?_⟩
            refine allR_step (l := [5]) (by kernel_rfl) (by simp) ?_
            refine ⟨?_, trivial⟩
            refine ⟨_, _, rfl, by simp [step1]; rfl, ?_⟩
            exact ⟨by kernel_rfl, rfl⟩
          · refine ⟨_, _, rfl, by simp [step1]; rfl, ?_⟩
            refine allR_step (l := [0]) (by kernel_rfl) (by simp) ?_
            refine ⟨?_, trivial⟩
            refine ⟨_, _, rfl, by simp [step1]; rfl, ?_⟩
            refine allR_step (l := [4]) (by kernel_rfl) (by simp) ?_
            refine ⟨?_, trivial⟩
            refine ⟨_, _, rfl, by simp [step1]; rfl, ?_⟩
            refine allR_step (l := [5]) (by kernel_rfl) (by simp) ?_
            refine ⟨?_, trivial⟩
            refine ⟨_, _, rfl, by simp [step1]; rfl, ?_⟩
            exact ⟨by kernel_rfl, rfl⟩
        · refine ⟨_, _, rfl, by simp [step1]; rfl, ?_⟩
          refine allR_step (l := [0, 1]) (by kernel_rfl) (by simp) ?_
          refine ⟨?_, ?_, trivial⟩
          · refine ⟨_, _, rfl, by simp [step1]; rfl, ?_⟩
            refine allR_step (l := [1, 4]) (by kernel_rfl) (by simp) ?_
            refine ⟨?_, ?_, trivial⟩
            · refine ⟨_, _, rfl, by simp [step1]; rfl, ?_⟩
              refine allR_step (l := [4]) (by kernel_rfl) (by simp) ?_
              refine ⟨?_, trivial⟩
              refine ⟨_, _, rfl, by simp [step1]; rfl, ?_⟩
              refine allR_step (l := [5]) (by kernel_rfl) (by simp) ?_
              refine ⟨?_, trivial⟩
              refine ⟨_, _, rfl, by simp [step1]; rfl, ?_⟩
              exact ⟨by kernel_rfl, rfl⟩
            · refine ⟨_, _, rfl, by simp [step1]; rfl, ?_⟩
              refine allR_step (l := [1]) (by kernel_rfl) (by simp) ?_
              refine ⟨?_, trivial⟩
              refine ⟨_, _, rfl, by simp [step1]; rfl, ?_⟩
              refine allR_step (l := [5]) (by kernel_rfl) (by simp) ?_
              refine ⟨?_, trivial⟩
              refine ⟨_, _, rfl, by simp [step1]; rfl, ?_⟩
              exact ⟨by kernel_rfl, rfl⟩
          · refine ⟨_, _, rfl, by simp [step1]; rfl, ?_⟩
            refine allR_step (l := [0]) (by kernel_rfl) (by simp) ?_
            refine ⟨?_, trivial⟩
            refine ⟨_, _, rfl, by simp [step1]; rfl, ?_⟩
            refine allR_step (l := [4]) (by kernel_rfl) (by simp) ?_
            refine ⟨?_, trivial⟩
            refine ⟨_, _, rfl, by simp [step1]; rfl, ?_⟩
            refine allR_step (l := [5]) (by kernel_rfl) (by simp) ?_
            refine ⟨?_, trivial⟩
            refine ⟨_, _, rfl, by simp [step1]; rfl, ?_⟩
            exact ⟨by kernel_rfl, rfl⟩) ?_)  -- region 4
    refine ev_seq (ev_reg (by simp [hlen]; rfl) ?_)  -- region 5
    refine ev_seq (ev_reg (by simp [hlen]; rfl) ?_)  -- region 6
    refine ev_seq (ev_reg (by simp [hcm, hkr, ctryF]; rfl) ?_)  -- region 7
    refine ev_seq (ev_drwC rfl (by kernel_rfl) (by kernel_rfl) (by simp [hcm, hkr, ctryF, hw1]; rfl) ?_)  -- region 8
    have hRR : (if t.co[c].1 + 1 < 8 then t.co[c].1 + 1 else 8) = R1 := by rw [hR1, hroom]; split <;> omega
    rw [hRR]
    refine ev_seq (ev_reg (by simp [h34]; rfl) ?_)  -- region 9
    refine ev_seq (ev_reg (by simp [hset, h34a]; rfl) ?_)  -- region 10
    refine ev_seq (ev_reg (by simp [hset, h34b]; rfl) ?_)  -- region 11
    have hml2 : m.length = l.length := by omega
    have hnl2 : n.length = l.length := by omega
    have htm : List.take l.length m = m := List.take_of_length_le (by omega)
    refine ev_seq (ev_seq (ev_reg (σ' := { env := [(2, V.ptr 2 0), (5, V.fv false (FV.int .i64 c)), (8, V.own 8 0 l.length), (10, V.own 10 0 m.length), (12, V.own 12 0 n.length), (107, V.fv false (.bool false))], blk := [(2, Blk.box [V.fv false (FV.sl t.fc 1 (rowsF t.cu)), V.fv false (FV.sl t.fd 2 (ctrysF t.co))]), (8, Blk.arr 1 (ints l)), (10, Blk.arr 1 (ints m)), (12, Blk.arr 1 (ints n))] }) (by simp [unsetS, ← hll, hml2, hnl2, htm, e46a]) ?_))  -- region 12
    refine ev_cond rfl (fun hb => by simp at hb) (fun hb => ?_)  -- 107
    refine ev_skip ?_
    refine ev_seq (ev_seq (ev_reg (by simp; rfl) ?_))  -- region 14
    refine ev_block ?_  -- 0
    refine ev_loop (fun i : Nat => ({ env := [(2, V.ptr 2 0), (5, V.fv false (FV.int .i64 c)), (8, V.own 8 0 l.length), (10, V.own 10 0 m.length), (12, V.own 12 0 n.length), (14, V.fv false (FV.int .i64 i))], blk := [(2, Blk.box [V.fv false (FV.sl t.fc 1 (rowsF t.cu)), V.fv false (FV.sl t.fd 2 (ctrysF t.co))]), (8, Blk.arr 1 (ints l)), (10, Blk.arr 1 (ints m)), (12, Blk.arr 1 (ints n))] } : St)) (fun i => l.length - i) (fun i => i ≤ l.length) 0 (by simp) (by simp) (by simp [R]; omega) (fun i hi => ?_)
    refine ev_seq (ev_seq (ev_reg (by simp; rfl) ?_))  -- region 15
    refine ev_cond rfl (fun hb => ?_) (fun hb => ?_)  -- 111
    · simp at hb
      have hin : i < t.cu.length := by omega
      have hw2 : IntKind.i64.wrap ((i : Int) + 1) = (i + 1 : Nat) := wrap_nat (n := i + 1) (by omega)
      have hx1 := hx1 i hin
      have hy1 := hy1 i hin
      obtain ⟨x, hgx, hgx2, hxl, hgx3⟩ := deal_get2 hll hin
      obtain ⟨y, hgy, hgy2, hyl, hgy3⟩ := deal_get2 hml hin
      obtain ⟨z, hgz, hgz2, hzl, hgz3⟩ := deal_get2 hnl hin
      rw [hgx, hgy] at hx1
      rw [hgx, hgz] at hy1
      have e45a := h45 i x hin
      have e45b := h45 i y hin
      have e45c := h45 i z hin
      have hn1 : ¬ placeT t i y < placeT t i x := by omega
      have hn2 : ¬ placeT t i x < placeT t i z := by omega
      refine ev_skip ?_
      refine ev_seq (ev_block ?_)  -- 1
      refine ev_seq (ev_drwC (σ' := { env := [(2, V.ptr 2 0), (5, V.fv false (FV.int .i64 c)), (8, V.own 8 0 l.length), (10, V.own 10 0 m.length), (12, V.own 12 0 n.length), (14, V.fv false (FV.int .i64 i)), (145, V.fv false (.bool false))], blk := [(2, Blk.box [V.fv false (FV.sl t.fc 1 (rowsF t.cu)), V.fv false (FV.sl t.fd 2 (ctrysF t.co))]), (8, Blk.arr 1 (ints l)), (10, Blk.arr 1 (ints m)), (12, Blk.arr 1 (ints n))] }) rfl (by kernel_rfl) (by kernel_rfl) (by simp [unsetS, hxl, hyl, hzl, hgx2, hgx3, hgy2, hgy3, hgz2, hgz3, e45a, e45b, e45c, hn1, hn2]) ?_)  -- region 17
      refine ev_cond rfl (fun hb => by simp at hb) (fun hb => ?_)  -- 145
      refine ev_skip ?_
      refine ev_reg (by simp [hw2]; rfl) ?_  -- region 16
      exact ⟨i + 1, by simp, by omega, by omega⟩
    · simp at hb
      refine ev_exit ?_  -- 0
      refine ev_seq (ev_seq (ev_reg (by simp; rfl) ?_))  -- region 19
      refine ev_block ?_  -- 2
      refine ev_loop (fun k : Nat => ({ env := [(2, V.ptr 2 0), (5, V.fv false (FV.int .i64 c)), (8, V.own 8 0 l.length), (10, V.own 10 0 m.length), (15, V.fv false (FV.int .i64 k))], blk := [(2, Blk.box [V.fv false (FV.sl t.fc 1 (rowsF t.cu)), V.fv false (FV.sl t.fd 2 (ctrysF t.co))]), (8, Blk.arr 1 (ints l)), (10, Blk.arr 1 (ints m))] } : St)) (fun k => t.co.length - k) (fun k => k ≤ t.co.length) 0 (by simp) (by simp) (by simp [R]; omega) (fun k hk => ?_)
      refine ev_seq (ev_seq (ev_reg (by simp; rfl) ?_))  -- region 20
      refine ev_cond rfl (fun hb => ?_) (fun hb => ?_)  -- 150
      · simp at hb
        have hkm := hb
        have hw2 : IntKind.i64.wrap ((k : Int) + 1) = (k + 1 : Nat) := wrap_nat (n := k + 1) (by omega)
        have e46b := h46 m k (by omega)
        have e46c := h46 l k (by omega)
        refine ev_skip ?_
        refine ev_seq (ev_block ?_)  -- 3
        refine ev_seq (ev_reg (σ' := { env := [(2, V.ptr 2 0), (5, V.fv false (FV.int .i64 c)), (8, V.own 8 0 l.length), (10, V.own 10 0 m.length), (15, V.fv false (FV.int .i64 k)), (164, V.fv false (.bool false))], blk := [(2, Blk.box [V.fv false (FV.sl t.fc 1 (rowsF t.cu)), V.fv false (FV.sl t.fd 2 (ctrysF t.co))]), (8, Blk.arr 1 (ints l)), (10, Blk.arr 1 (ints m))] }) (by
          by_cases hkc : k = c
          · subst hkc
            simp [unsetS]
          · have h1 : ((k : Int) != (c : Int)) = true := by rw [bne_iff_ne]; omega
            have h2 := hx2 k hkm hkc
            have h3 : ¬ (manyN m k : Int) < (manyN l k : Int) := by omega
            have h4 : ¬ manyN m k < manyN l k := by omega
            simp [unsetS, h1, hkc, e46b, e46c, h3, h4]) ?_)  -- region 22
        refine ev_cond rfl (fun hb => by simp at hb) (fun hb => ?_)  -- 164
        refine ev_skip ?_
        refine ev_reg (by simp [hw2]; rfl) ?_  -- region 21
        exact ⟨k + 1, by simp, by omega, by omega⟩
      · simp at hb
        refine ev_exit ?_  -- 2
        refine ev_seq (ev_reg (by simp [h20]; rfl) ?_)  -- region 24
        refine ev_ret ?_
        simp
theorem law13 (t : Trade) (ht : Trade47 t) (hfd : t.fd = false) (hlen : t.co.length * 32 ≤ 140737488355328) (a : Int) (r1 : Bool) : Valid Try.prog 13 [(false, tradeF t), (r1, .int .i64 a)] [.fv (.bool true)] :=
  v13 _ (fam_ctxd [F43, F37i, F34, F45, F46, F20]) t hfd hlen a r1 (at43 rfl ht) (at37 rfl) (at34 rfl ht) (fun c r => at34 rfl (withR_47 ht c r)) (fun hok => at45 rfl (okTrade_iff.mp hok).row62) (at46 rfl) (fam_at (F := F20) rfl () rfl rfl)
end Go.Proofs.Ytoafhoihigfllaa.E
