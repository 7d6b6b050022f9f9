/-
  The chapter of the treaty: whether a trade is one: walks of both, and of the law's own check. Conditions: none.
-/
import Derived.Test.YtoafhoihigfllaaRe
namespace Go.Proofs.Ytoafhoihigfllaa.E
open Go Go.RowKit
set_option linter.unusedVariables false
set_option linter.unusedSimpArgs false
/-- is a curer's country one, and told for the first time -/
def goodT (m : Nat) (l : List Int) (k : Nat) : Bool := (decide (0 ≤ l.getD k 0) && decide (l.getD k 0 ≤ (m : Int) - 1)) && (idx (· == l.getD k 0) l == (k : Int))
def okRow (m : Nat) (l : List Int) : Bool := (List.range l.length).all (goodT m l)
def okCty (n : Nat) (p : Ctry) : Bool := (decide (0 ≤ p.1) && decide (p.1 ≤ 8)) && onceI p.2.2 n
def okSize (t : Trade) : Bool := (decide ((1 : Int) ≤ t.cu.length) && decide ((t.cu.length : Int) ≤ 8)) && (decide ((1 : Int) ≤ t.co.length) && decide ((t.co.length : Int) ≤ 5))
def okTrade (t : Trade) : Bool := (okSize t && t.cu.all fun p => okRow t.co.length p.2) && t.co.all (okCty t.cu.length)
def codeT (t : Trade) : Int := if okTrade t then 0 else 102
theorem all_take_succ {α : Type} (p : α → Bool) (l : List α) (i : Nat) (h : i < l.length) : (l.take (i + 1)).all p = ((l.take i).all p && p l[i]) := by
  simp only [List.take_add_one, List.getElem?_eq_getElem h, Option.toList_some, List.all_append, List.all_cons, List.all_nil, Bool.and_true]
theorem all_range_succ (p : Nat → Bool) (i : Nat) : (List.range (i + 1)).all p = ((List.range i).all p && p i) := by
  simp only [List.range_succ, List.all_append, List.all_cons, List.all_nil, Bool.and_true]
theorem all_take_bad {α : Type} {p : α → Bool} {l : List α} {i : Nat} {A : Bool} (h : (A && (l.take i).all p) = false) : (A && l.all p) = false := by
  cases A with
  | false => rfl
  | true =>
    simp only [Bool.true_and] at h ⊢
    rw [List.all_eq_false] at h ⊢
    obtain ⟨x, hx, hw⟩ := h
    exact ⟨x, List.mem_of_mem_take hx, hw⟩
theorem all_range_bad {p : Nat → Bool} {n i : Nat} {A : Bool} (hi : i ≤ n) (h : (A && (List.range i).all p) = false) : (A && (List.range n).all p) = false := by
  cases A with
  | false => rfl
  | true =>
    simp only [Bool.true_and] at h ⊢
    rw [List.all_eq_false] at h ⊢
    obtain ⟨x, hx, hw⟩ := h
    exact ⟨x, List.mem_range.mpr (by have := List.mem_range.mp hx; omega), hw⟩
structure Trade47 (t : Trade) : Prop where
  cul : t.cu.length < 2^62
  col : t.co.length < 2^62
  cu : ∀ p ∈ t.cu, p.2.length * 8 ≤ 140737488355328
  co : ∀ p ∈ t.co, p.2.2.length * 8 ≤ 140737488355328
theorem v33 (ctx : Ctx) (hC : CtxOk (pg ctx)) (h36 : H36 ctx) (h40 : H40 ctx) (h62 : H62 ctx) (t : Trade) (ht : Trade47 t) (ro : Bool) :
    Valid Try.prog 33 [(ro, tradeF t)] [.fv (.int .i64 (codeT t))] := by
  refine valid_of_ev (G := pg ctx) (tok ctx) hC mixed Try.func33 T33 L33 (by simp [Try.ntmps33]) ⟨_, rfl, ?_⟩
  simp only [Try.ntmps33, Try.results33, initSt, initEnv, tradeF, cellsT]
  obtain ⟨A, hA⟩ : ∃ A, A = (decide ((1 : Int) ≤ t.cu.length) && decide ((t.cu.length : Int) ≤ 8)) := ⟨_, rfl⟩
  have eA : ∀ (r1 r2 r3 : Bool), ctx 36 [(r1, .int .i64 t.cu.length), (r2, .int .i64 1), (r3, .int .i64 8)] = some [.fv (.bool A)] := fun r1 r2 r3 => by rw [hA]; exact h36 r1 r2 r3 _ _ _
  obtain ⟨B, hB⟩ : ∃ B, B = (decide ((1 : Int) ≤ t.co.length) && decide ((t.co.length : Int) ≤ 5)) := ⟨_, rfl⟩
  have eB : ∀ (r1 r2 r3 : Bool), ctx 36 [(r1, .int .i64 t.co.length), (r2, .int .i64 1), (r3, .int .i64 5)] = some [.fv (.bool B)] := fun r1 r2 r3 => by rw [hB]; exact h36 r1 r2 r3 _ _ _
  have hsize : okSize t = (A && B) := by rw [okSize, hA, hB]
  have hm5 : (A && B) = true → t.co.length ≤ 5 := fun h => by
    simp only [Bool.and_eq_true] at h
    have := h.2
    rw [hB] at this
    simp only [Bool.and_eq_true, decide_eq_true_eq] at this
    omega
  clear hA hB
  have hcul := ht.cul
  have hcol := ht.col
  refine ev_seq (ev_reg (by simp [boxA, vcells]; rfl) ?_)  -- region 0
  refine ev_seq (ev_reg (σ' := { env := [(1, V.ptr 1 0), (3, V.fv false (.bool (A && B)))], blk := [(1, Blk.box [V.fv ro (FV.sl t.fc 1 (rowsF t.cu)), V.fv ro (FV.sl t.fd 2 (ctrysF t.co))])] }) (by cases A <;> simp [eA, eB]) ?_)  -- region 1
  generalize (A && B) = S at *
  refine ev_seq (ev_seq (ev_reg (by simp; rfl) ?_))  -- region 2
  refine ev_block ?_  -- 0
  refine ev_loop (fun x : Nat × Bool => ({ env := [(1, V.ptr 1 0), (3, V.fv false (.bool x.2)), (4, V.fv false (.int .i64 x.1))], blk := [(1, Blk.box [V.fv ro (FV.sl t.fc 1 (rowsF t.cu)), V.fv ro (FV.sl t.fd 2 (ctrysF t.co))])] } : St)) (fun x => t.cu.length - x.1) (fun x => x.1 ≤ t.cu.length ∧ x.2 = (S && (t.cu.take x.1).all fun p => okRow t.co.length p.2)) (0, S) (by simp) (by simp) (by simp [R]; omega) (fun x hi => ?_)
  obtain ⟨i, ok⟩ := x
  obtain ⟨hi, hn⟩ := hi
  simp only at hi hn
  refine ev_seq (ev_seq (ev_reg (σ' := { env := [(1, V.ptr 1 0), (3, V.fv false (.bool ok)), (4, V.fv false (.int .i64 i)), (24, V.fv false (.bool (ok && decide (i < t.cu.length))))], blk := [(1, Blk.box [V.fv ro (FV.sl t.fc 1 (rowsF t.cu)), V.fv ro (FV.sl t.fd 2 (ctrysF t.co))])] }) (by cases ok <;> simp [unsetS]) ?_))  -- region 3
  refine ev_cond rfl (fun hb => ?_) (fun hb => ?_)  -- 24
  · simp at hb
    obtain ⟨hok, hb⟩ := hb
    subst hok
    have hS : S = true := by
      cases S with
      | true => rfl
      | false => simp at hn
    have hm := hm5 hS
    have hw1 : IntKind.i64.wrap ((i : Int) + 1) = (i + 1 : Nat) := wrap_nat (n := i + 1) (by omega)
    have hnx := all_take_succ (fun p => okRow t.co.length p.2) t.cu i hb
    have hrow : t.cu[i].2.length * 8 ≤ 140737488355328 := ht.cu _ (List.getElem_mem _)
    rw [okRow] at hnx
    have hg := fun k (hk : k < t.cu[i].2.length) => (show t.cu[i].2.getD k 0 = t.cu[i].2[k] by simp [List.getD_eq_getElem?_getD, List.getElem?_eq_getElem hk])
    refine ev_skip ?_
    refine ev_seq (ev_block ?_)  -- 1
    refine ev_seq (ev_reg (by simp; rfl) ?_)  -- region 5
    refine ev_block ?_  -- 2
    refine ev_loop (fun y : Nat × Bool => ({ env := [(1, V.ptr 1 0), (3, V.fv false (.bool y.2)), (4, V.fv false (.int .i64 i)), (5, V.fv false (.int .i64 y.1))], blk := [(1, Blk.box [V.fv ro (FV.sl t.fc 1 (rowsF t.cu)), V.fv ro (FV.sl t.fd 2 (ctrysF t.co))])] } : St)) (fun y => t.cu[i].2.length - y.1) (fun y => y.1 ≤ t.cu[i].2.length ∧ y.2 = (true && (List.range y.1).all (goodT t.co.length t.cu[i].2))) (0, true) (by simp) (by simp) (by simp [R]; omega) (fun y hy => ?_)
    obtain ⟨k, ok⟩ := y
    obtain ⟨hk, hn2⟩ := hy
    simp only at hk hn2
    refine ev_seq (ev_seq (ev_reg (σ' := { env := [(1, V.ptr 1 0), (3, V.fv false (.bool ok)), (4, V.fv false (.int .i64 i)), (5, V.fv false (.int .i64 k)), (37, V.fv false (.bool (ok && decide (k < t.cu[i].2.length))))], blk := [(1, Blk.box [V.fv ro (FV.sl t.fc 1 (rowsF t.cu)), V.fv ro (FV.sl t.fd 2 (ctrysF t.co))])] }) (by cases ok <;> simp [unsetS, hb, rowF]) ?_))  -- region 6
    refine ev_cond rfl (fun hb2 => ?_) (fun hb2 => ?_)  -- 37
    · simp at hb2
      obtain ⟨hok, hb2⟩ := hb2
      subst hok
      have hw2 : IntKind.i64.wrap ((k : Int) + 1) = (k + 1 : Nat) := wrap_nat (n := k + 1) (by omega)
      have hw3 : IntKind.i64.wrap ((t.co.length : Int) - 1) = (t.co.length : Int) - 1 := wrap_id (by omega) (by omega)
      have hnx2 := all_range_succ (goodT t.co.length t.cu[i].2) k
      rw [← (Bool.true_and ((List.range k).all _)), ← hn2, Bool.true_and] at hnx2
      have e36 := fun r1 r2 r3 => h36 r1 r2 r3 (t.cu[i].2[k]) 0 ((t.co.length : Int) - 1)
      have e40 := h40 t.cu[i].2 t.cu[i].2[k] (by omega)
      have hgk := hg k hb2
      have hgd : goodT t.co.length t.cu[i].2 k = ((decide (0 ≤ t.cu[i].2[k]) && decide (t.cu[i].2[k] ≤ (t.co.length : Int) - 1)) && (idx (· == t.cu[i].2[k]) t.cu[i].2 == (k : Int))) := by rw [goodT, hgk]
      rw [hgd] at hnx2
      clear hgd
      generalize idx (· == t.cu[i].2[k]) t.cu[i].2 = x at *
      obtain ⟨P, hP⟩ : ∃ P, (decide (0 ≤ t.cu[i].2[k]) && decide (t.cu[i].2[k] ≤ (t.co.length : Int) - 1)) = P := ⟨_, rfl⟩
      obtain ⟨Q, hQ⟩ : ∃ Q, (x == (k : Int)) = Q := ⟨_, rfl⟩
      rw [hP] at e36 hnx2
      rw [hQ] at hnx2
      refine ev_skip ?_
      refine ev_seq (ev_block ?_)  -- 3
      refine ev_drw (σ' := { env := [(1, V.ptr 1 0), (3, V.fv false (.bool (P && Q))), (4, V.fv false (.int .i64 i)), (5, V.fv false (.int .i64 k))], blk := [(1, Blk.box [V.fv ro (FV.sl t.fc 1 (rowsF t.cu)), V.fv ro (FV.sl t.fd 2 (ctrysF t.co))])] }) rfl (by kernel_rfl) (by kernel_rfl) (by cases P <;> simp [unsetS, hb, hb2, rowF, hw3, e36, e40, hQ]) ?_  -- region 8
      refine ev_reg (by simp [hw2]; rfl) ?_  -- region 7
      exact ⟨(k + 1, P && Q), rfl, ⟨by simp only; omega, by simp only; rw [hnx2, Bool.true_and]⟩, by simp only; omega⟩
    · have hfin : ok = (List.range t.cu[i].2.length).all (goodT t.co.length t.cu[i].2) := by
        cases ok with
        | true =>
          simp at hb2
          rw [show t.cu[i].2.length = k by omega, hn2, Bool.true_and]
        | false =>
          have := all_range_bad hk hn2.symm
          rw [Bool.true_and] at this; exact this.symm
      refine ev_exit ?_  -- 2
      refine ev_reg (by simp [hw1]; rfl) ?_  -- region 4
      refine ⟨(i + 1, ok), rfl, ⟨by simp only; omega, ?_⟩, by simp only; omega⟩
      simp only
      rw [hnx, ← hfin, ← Bool.and_assoc, ← hn, Bool.true_and]
  · have hfin : ok = (S && t.cu.all fun p => okRow t.co.length p.2) := by
      cases ok with
      | true =>
        simp at hb
        rw [List.take_of_length_le (by omega)] at hn
        exact hn
      | false => exact (all_take_bad hn.symm).symm
    rw [codeT, okTrade, hsize, ← hfin]
    clear hn hb hfin hi
    refine ev_exit ?_  -- 0
    refine ev_seq (ev_seq (ev_reg (by simp; rfl) ?_))  -- region 9
    refine ev_block ?_  -- 4
    refine ev_loop (fun x : Nat × Bool => ({ env := [(1, V.ptr 1 0), (3, V.fv false (.bool x.2)), (6, V.fv false (.int .i64 x.1))], blk := [(1, Blk.box [V.fv ro (FV.sl t.fc 1 (rowsF t.cu)), V.fv ro (FV.sl t.fd 2 (ctrysF t.co))])] } : St)) (fun x => t.co.length - x.1) (fun x => x.1 ≤ t.co.length ∧ x.2 = (ok && (t.co.take x.1).all (okCty t.cu.length))) (0, ok) (by simp) (by simp) (by simp [R]; omega) (fun x hx => ?_)
    clear hm5 hsize
    obtain ⟨j, ok2⟩ := x
    obtain ⟨hj, hn⟩ := hx
    simp only at hj hn
    refine ev_seq (ev_seq (ev_reg (σ' := { env := [(1, V.ptr 1 0), (3, V.fv false (.bool ok2)), (6, V.fv false (.int .i64 j)), (78, V.fv false (.bool (ok2 && decide (j < t.co.length))))], blk := [(1, Blk.box [V.fv ro (FV.sl t.fc 1 (rowsF t.cu)), V.fv ro (FV.sl t.fd 2 (ctrysF t.co))])] }) (by cases ok2 <;> simp [unsetS]) ?_))  -- region 10
    refine ev_cond rfl (fun hb => ?_) (fun hb => ?_)  -- 78
    · simp at hb
      obtain ⟨hok, hb⟩ := hb
      subst hok
      have hw1 : IntKind.i64.wrap ((j : Int) + 1) = (j + 1 : Nat) := wrap_nat (n := j + 1) (by omega)
      have hnx := all_take_succ (okCty t.cu.length) t.co j hb
      have e36 := fun r1 r2 r3 => h36 r1 r2 r3 t.co[j].1 0 8
      have e62 := h62 t.co[j].2.2 t.cu.length (by have := ht.co _ (List.getElem_mem hb); omega) hcul
      have hgd : okCty t.cu.length t.co[j] = ((decide (0 ≤ t.co[j].1) && decide (t.co[j].1 ≤ 8)) && onceI t.co[j].2.2 t.cu.length) := rfl
      rw [hgd] at hnx
      obtain ⟨P, hP⟩ : ∃ P, (decide (0 ≤ t.co[j].1) && decide (t.co[j].1 ≤ 8)) = P := ⟨_, rfl⟩
      obtain ⟨Q, hQ⟩ : ∃ Q, onceI t.co[j].2.2 t.cu.length = Q := ⟨_, rfl⟩
      rw [hP] at e36
      rw [hQ] at e62
      simp only [hP, hQ] at hnx
      refine ev_skip ?_
      refine ev_seq (ev_block ?_)  -- 5
      refine ev_drw (σ' := { env := [(1, V.ptr 1 0), (3, V.fv false (.bool (P && Q))), (6, V.fv false (.int .i64 j))], blk := [(1, Blk.box [V.fv ro (FV.sl t.fc 1 (rowsF t.cu)), V.fv ro (FV.sl t.fd 2 (ctrysF t.co))])] }) rfl (by kernel_rfl) (by kernel_rfl) (by cases P <;> simp [unsetS, hb, ctryF, e36, e62]) ?_  -- region 12
      refine ev_reg (by simp [hw1]; rfl) ?_  -- region 11
      refine ⟨(j + 1, P && Q), rfl, ⟨by simp only; omega, ?_⟩, by simp only; omega⟩
      simp only
      rw [hnx, ← Bool.and_assoc, ← hn, Bool.true_and]
    · have hfin : ok2 = (ok && t.co.all (okCty t.cu.length)) := by
        cases ok2 with
        | true =>
          simp at hb
          rw [List.take_of_length_le (by omega)] at hn
          exact hn
        | false => exact (all_take_bad hn.symm).symm
      rw [← hfin]
      refine ev_exit ?_  -- 4
      refine ev_seq (ev_seq (ev_reg (by simp; rfl) ?_))  -- region 13
      cases ok2 with
      | false =>
        refine ev_cond rfl (fun hb => ?_) (fun hb => by simp at hb)  -- 101
        refine ev_seq (ev_reg (by simp; rfl) ?_)  -- region 14
        refine ev_ret ?_
        simp
      | true =>
        refine ev_cond rfl (fun hb => by simp at hb) (fun hb => ?_)  -- 101
        refine ev_skip ?_
        refine ev_seq (ev_reg (by simp; rfl) ?_)  -- region 15
        refine ev_ret ?_
        simp
end Go.Proofs.Ytoafhoihigfllaa.E
namespace Go.Proofs.Ytoafhoihigfllaa.E
open Go Go.RowKit
set_option linter.unusedVariables false
set_option linter.unusedSimpArgs false
theorem bV_1 (D : List Bool) (x : Nat) (hx : x < D.length) : List.take 1 (List.drop x (bV D)) = [.fv false (.bool D[x])] := by
  rw [List.drop_eq_getElem_cons (by simpa using hx)]
  simp [bV]
theorem bV_set (D : List Bool) (x : Nat) (hx : x < D.length) : splice (bV D) x [.fv false (.bool true)] = bV (D.set x true) := by
  rw [bV, bV, List.map_set, List.set_eq_take_append_cons_drop, if_pos (by simpa using hx)]
  simp [splice]
theorem idx_first (l : List Int) (k : Nat) (hk : k < l.length) : (idx (· == l[k]) l == (k : Int)) = !decide (l[k] ∈ l.take k) := by
  obtain ⟨i, hi⟩ : ∃ i, l.findIdx? (· == l[k]) = some i := by
    rw [← Option.isSome_iff_exists, List.findIdx?_isSome, List.any_eq_true]
    exact ⟨l[k], List.getElem_mem _, by simp⟩
  have hidx : idx (· == l[k]) l = (i : Int) := by simp [idx, hi]
  rw [hidx]
  rw [List.findIdx?_eq_some_iff_getElem] at hi
  obtain ⟨h1, h2, h3⟩ := hi
  simp only [beq_iff_eq] at h2 h3
  have hle : i ≤ k := by
    rcases Nat.lt_or_ge k i with h | h
    · have := h3 k h; simp at this
    · exact h
  rw [Bool.eq_iff_iff]
  simp only [beq_iff_eq, Bool.not_eq_true', decide_eq_false_iff_not]
  constructor
  · intro e hm
    have e : i = k := by omega
    subst e
    rw [List.mem_take_iff_getElem] at hm
    obtain ⟨j, hj, he⟩ := hm
    exact absurd he (by simpa using h3 j (by omega))
  · intro hm
    rcases Nat.lt_or_eq_of_le hle with h | h
    · exact absurd (List.mem_take_iff_getElem.mpr ⟨i, by omega, h2⟩) hm
    · omega
theorem asg_sl {G : Pg} {keep : List Nat} {σ : St} {d ty sz : Nat} {ro c : Bool} {xs : List FV} (h : ¬ (c = true ∧ xs = [])) : asgA G keep σ d ty (.fv ro (.sl c sz xs)) = some { σ with env := put d (.fv ro (.sl c sz xs)) σ.env } := by
  cases c with
  | false => rfl
  | true => cases xs with
    | nil => exact absurd ⟨rfl, rfl⟩ h
    | cons x r => rfl
theorem v32 (ctx : Ctx) (hC : CtxOk (pg ctx)) (h51 : H51 ctx) (h61 : H61 ctx) (t : Trade) (ht : Trade47 t) (ro : Bool) :
    Valid Try.prog 32 [(ro, tradeF t)] [.fv (.int .i64 (codeT t))] := by
  refine valid_of_ev (G := pg ctx) (tok ctx) hC mixed Try.func32 T32 L32 (by simp [Try.ntmps32]) ⟨_, rfl, ?_⟩
  simp only [Try.ntmps32, Try.results32, initSt, initEnv, tradeF, cellsT]
  obtain ⟨A, hA⟩ : ∃ A, A = (decide ((1 : Int) ≤ t.cu.length) && decide ((t.cu.length : Int) ≤ 8)) := ⟨_, rfl⟩
  have eA : ∀ (r1 r2 r3 : Bool), ctx 51 [(r1, .int .i64 t.cu.length), (r2, .int .i64 1), (r3, .int .i64 8)] = some [.fv (.bool A)] := fun r1 r2 r3 => by rw [hA]; exact h51 r1 r2 r3 _ _ _
  obtain ⟨B, hB⟩ : ∃ B, B = (decide ((1 : Int) ≤ t.co.length) && decide ((t.co.length : Int) ≤ 5)) := ⟨_, rfl⟩
  have eB : ∀ (r1 r2 r3 : Bool), ctx 51 [(r1, .int .i64 t.co.length), (r2, .int .i64 1), (r3, .int .i64 5)] = some [.fv (.bool B)] := fun r1 r2 r3 => by rw [hB]; exact h51 r1 r2 r3 _ _ _
  have hsize : okSize t = (A && B) := by rw [okSize, hA, hB]
  have hm5 : (A && B) = true → t.co.length ≤ 5 := fun h => by
    simp only [Bool.and_eq_true] at h
    have := h.2
    rw [hB] at this
    simp only [Bool.and_eq_true, decide_eq_true_eq] at this
    omega
  clear hA hB
  have hcul := ht.cul
  have hcol := ht.col
  refine ev_seq (ev_reg (by simp [boxA, vcells]; rfl) ?_)  -- region 0
  refine ev_seq (ev_reg (σ' := { env := [(1, V.ptr 1 0), (3, V.fv false (.bool (A && B)))], blk := [(1, Blk.box [V.fv ro (FV.sl t.fc 1 (rowsF t.cu)), V.fv ro (FV.sl t.fd 2 (ctrysF t.co))])] }) (by cases A <;> simp [eA, eB]) ?_)  -- region 1
  generalize (A && B) = S at *
  refine ev_seq (ev_seq (ev_reg (by simp; rfl) ?_))  -- region 2
  refine ev_block ?_  -- 0
  refine ev_loop (fun x : Nat × Bool => ({ env := [(1, V.ptr 1 0), (3, V.fv false (.bool x.2)), (22, V.fv ro (FV.sl t.fc 1 (rowsF t.cu))), (23, V.fv false (.int .i64 t.cu.length)), (24, V.fv false (.int .i64 x.1))], blk := [(1, Blk.box [V.fv ro (FV.sl t.fc 1 (rowsF t.cu)), V.fv ro (FV.sl t.fd 2 (ctrysF t.co))])] } : St)) (fun x => t.cu.length - x.1) (fun x => x.1 ≤ t.cu.length ∧ x.2 = (S && (t.cu.take x.1).all fun p => okRow t.co.length p.2)) (0, S) (by simp) (by simp) (by simp [R]; omega) (fun x hi => ?_)
  obtain ⟨i, ok⟩ := x
  obtain ⟨hi, hn⟩ := hi
  simp only at hi hn
  refine ev_seq (ev_reg (by simp; rfl) ?_)  -- region 3
  refine ev_seq (ev_cond rfl (fun hb => ?_) (fun hb => ?_))  -- 25
  · simp at hb
    have hw1 : IntKind.i64.wrap ((i : Int) + 1) = (i + 1 : Nat) := wrap_nat (n := i + 1) (by omega)
    have hnx := all_take_succ (fun p => okRow t.co.length p.2) t.cu i hb
    have hrow : t.cu[i].2.length * 8 ≤ 140737488355328 := ht.cu _ (List.getElem_mem _)
    rw [okRow] at hnx
    have hg := fun k (hk : k < t.cu[i].2.length) => (show t.cu[i].2.getD k 0 = t.cu[i].2[k] by simp [List.getD_eq_getElem?_getD, List.getElem?_eq_getElem hk])
    refine ev_skip ?_
    refine ev_seq (ev_block ?_)  -- 1
    by_cases hemp : t.cu[i] = (true, [])
    · have hz : t.cu[i].2 = [] := by rw [hemp]
      refine ev_seq (ev_reg (by simp [hb, rowF, hemp]; rfl) ?_)  -- region 4
      refine ev_seq (ev_reg (by simp; rfl) ?_)  -- region 5
      refine ev_seq (ev_reg (by simp; rfl) ?_)  -- region 6
      refine ev_block ?_  -- 2
      refine ev_loop (fun y : Nat => ({ env := [(1, V.ptr 1 0), (3, V.fv false (.bool ok)), (6, V.ptr 6 0), (22, V.fv ro (FV.sl t.fc 1 (rowsF t.cu))), (23, V.fv false (.int .i64 t.cu.length)), (24, V.fv false (.int .i64 i)), (28, V.own 5 0 0), (29, V.fv false (.int .i64 0)), (30, V.fv false (.int .i64 0))], blk := [(1, Blk.box [V.fv ro (FV.sl t.fc 1 (rowsF t.cu)), V.fv ro (FV.sl t.fd 2 (ctrysF t.co))]), (5, Blk.arr 1 []), (6, Blk.box (bV (List.replicate 8 false)))] } : St)) (fun y => 1) (fun y => True) 0 (by simp [bV]) trivial (by simp [R]) (fun y hy => ?_)
      refine ev_seq (ev_reg (by simp; rfl) ?_)  -- region 7
      refine ev_seq (ev_cond rfl (fun hb2 => by simp at hb2) (fun hb2 => ?_))  -- 31
      refine ev_exit ?_  -- 2
      refine ev_reg (by simp [hw1]; rfl) ?_  -- region 13
      refine ⟨(i + 1, ok), by simp, ⟨by simp only; omega, ?_⟩, by simp only; omega⟩
      simp only
      rw [hnx, hz, hn]; simp
    · have hemp2 : ¬ (t.cu[i].1 = true ∧ ints t.cu[i].2 = []) := fun ⟨e1, e2⟩ => hemp (Prod.ext e1 (by simpa [ints] using e2))
      have hasg := @asg_sl (pg ctx)
      refine ev_seq (ev_reg (by simp [-asgA, hb, rowF, asg_sl hemp2]; rfl) ?_)  -- region 4
      refine ev_seq (ev_reg (by simp; rfl) ?_)  -- region 5
      refine ev_seq (ev_reg (by simp; rfl) ?_)  -- region 6
      refine ev_block ?_  -- 2
      refine ev_loop (fun y : Nat × Bool × List Bool => ({ env := [(1, V.ptr 1 0), (3, V.fv false (.bool y.2.1)), (6, V.ptr 6 0), (22, V.fv ro (FV.sl t.fc 1 (rowsF t.cu))), (23, V.fv false (.int .i64 t.cu.length)), (24, V.fv false (.int .i64 i)), (28, V.fv ro (FV.sl t.cu[i].1 1 (ints t.cu[i].2))), (29, V.fv false (.int .i64 t.cu[i].2.length)), (30, V.fv false (.int .i64 y.1))], blk := [(1, Blk.box [V.fv ro (FV.sl t.fc 1 (rowsF t.cu)), V.fv ro (FV.sl t.fd 2 (ctrysF t.co))]), (6, Blk.box (bV y.2.2))] } : St)) (fun y => t.cu[i].2.length - y.1) (fun y => y.1 ≤ t.cu[i].2.length ∧ y.2.2.length = 8 ∧ y.2.1 = (ok && (List.range y.1).all (goodT t.co.length t.cu[i].2)) ∧ (y.2.1 = true → ∀ x : Nat, x < 8 → y.2.2.getD x false = decide ((x : Int) ∈ t.cu[i].2.take y.1))) (0, ok, List.replicate 8 false) (by simp [bV]) ⟨by simp, by simp, by simp, fun _ x hx => by rw [List.getD_eq_getElem?_getD, List.getElem?_replicate, if_pos hx]; simp⟩ (by simp [R]; omega) (fun y hy => ?_)
      obtain ⟨k, ok2, D⟩ := y
      obtain ⟨hk, hD, hn2, hmet⟩ := hy
      simp only at hk hD hn2 hmet
      refine ev_seq (ev_reg (by simp; rfl) ?_)  -- region 7
      refine ev_seq (ev_cond rfl (fun hb2 => ?_) (fun hb2 => ?_))  -- 31
      · simp at hb2
        have hw2 : IntKind.i64.wrap ((k : Int) + 1) = (k + 1 : Nat) := wrap_nat (n := k + 1) (by omega)
        have hw3 : IntKind.i64.wrap ((t.co.length : Int) - 1) = (t.co.length : Int) - 1 := wrap_id (by omega) (by omega)
        have hnx2 := all_range_succ (goodT t.co.length t.cu[i].2) k
        have hgd : goodT t.co.length t.cu[i].2 k = ((decide (0 ≤ t.cu[i].2[k]) && decide (t.cu[i].2[k] ≤ (t.co.length : Int) - 1)) && !decide (t.cu[i].2[k] ∈ t.cu[i].2.take k)) := by rw [goodT, hg k hb2, idx_first _ _ hb2]
        rw [hgd] at hnx2
        have e51 := fun r1 r2 r3 => h51 r1 r2 r3 (t.cu[i].2[k]) 0 ((t.co.length : Int) - 1)
        have htk : t.cu[i].2.take (k + 1) = t.cu[i].2.take k ++ [t.cu[i].2[k]] := by rw [List.take_add_one, List.getElem?_eq_getElem hb2]; rfl
        refine ev_skip ?_
        refine ev_seq (ev_block ?_)  -- 3
        refine ev_seq (ev_reg (by simp [hb2]; rfl) ?_)  -- region 8
        obtain ⟨P, hP⟩ : ∃ P, (decide (0 ≤ t.cu[i].2[k]) && decide (t.cu[i].2[k] ≤ (t.co.length : Int) - 1)) = P := ⟨_, rfl⟩
        rw [hP] at e51 hnx2
        by_cases hPQ : ok2 = true ∧ P = true
        · obtain ⟨rfl, rfl⟩ := hPQ
          have hm8 : t.co.length ≤ 5 := hm5 (by
            cases S with
            | true => rfl
            | false =>
              simp only [Bool.false_and] at hn
              rw [hn] at hn2; simp at hn2)
          obtain ⟨x, hx⟩ : ∃ x : Nat, t.cu[i].2[k] = (x : Int) := ⟨t.cu[i].2[k].toNat, by simp at hP; omega⟩
          have hx8 : x < 8 := by simp at hP; omega
          have hxi : (x : Int) < 8 := by omega
          have hD1 := bV_1 D x (by omega)
          have hD2 := bV_set D x (by omega)
          simp only [splice, List.length_singleton, List.append_assoc, List.cons_append, List.nil_append] at hD2
          have hDx := hmet rfl x hx8
          rw [hx] at hnx2 htk e51
          rw [← hDx] at hnx2
          have hgx : D.getD x false = D[x] := by simp [List.getD_eq_getElem?_getD, List.getElem?_eq_getElem (show x < D.length by omega)]
          rw [hgx] at hnx2 hDx
          obtain ⟨Q, hQ⟩ : ∃ Q, D[x] = Q := ⟨_, rfl⟩
          rw [hQ] at hnx2 hD1 hDx
          refine ev_seq (ev_reg (σ' := { env := [(1, V.ptr 1 0), (3, V.fv false (.bool !Q)), (6, V.ptr 6 0), (8, V.fv false (.int .i64 x)), (22, V.fv ro (FV.sl t.fc 1 (rowsF t.cu))), (23, V.fv false (.int .i64 t.cu.length)), (24, V.fv false (.int .i64 i)), (28, V.fv ro (FV.sl t.cu[i].1 1 (ints t.cu[i].2))), (29, V.fv false (.int .i64 t.cu[i].2.length)), (30, V.fv false (.int .i64 k))], blk := [(1, Blk.box [V.fv ro (FV.sl t.fc 1 (rowsF t.cu)), V.fv ro (FV.sl t.fd 2 (ctrysF t.co))]), (6, Blk.box (bV D))] }) (by simp [hx, hw3, e51, hxi, hx8, hD, show x + 1 ≤ 8 from hx8, hD1]) ?_)  -- region 9
          refine ev_seq (ev_reg (by simp; rfl) ?_)  -- region 10
          cases Q with
          | false =>
            refine ev_cond rfl (fun hb => ?_) (fun hb => by simp at hb)  -- 49
            refine ev_reg (by simp [hxi, hx8, hD, show x + 1 ≤ 8 from hx8, hD2]; rfl) ?_  -- region 11
            refine ev_reg (by simp [hw2]; rfl) ?_  -- region 12
            refine ⟨(k + 1, true, D.set x true), by simp, ⟨by simp only; omega, by simp [hD], ?_, fun _ z hz => ?_⟩, by simp only; omega⟩
            · simp only
              rw [hnx2, ← Bool.and_assoc, ← hn2]; rfl
            · simp only
              rw [htk]
              simp only [List.mem_append, List.mem_singleton]
              by_cases e : z = x
              · subst e
                simp [List.getD_eq_getElem?_getD, List.getElem?_set_self (show z < D.length by omega)]
              · have := hmet rfl z hz
                have e2 : ¬ (z : Int) = x := by omega
                simp only [e2, or_false]
                rw [← this, List.getD_eq_getElem?_getD, List.getD_eq_getElem?_getD, List.getElem?_set_ne (Ne.symm e)]
          | true =>
            refine ev_cond rfl (fun hb => by simp at hb) (fun hb => ?_)  -- 49
            refine ev_skip ?_
            refine ev_reg (by simp [hw2]; rfl) ?_  -- region 12
            refine ⟨(k + 1, false, D), by simp, ⟨by simp only; omega, hD, ?_, fun h => by simp at h⟩, by simp only; omega⟩
            simp only
            rw [hnx2]; simp
        · have hno : (ok2 && P) = false := by
            cases ok2 <;> cases P <;> simp at hPQ ⊢
          refine ev_seq (ev_reg (σ' := { env := [(1, V.ptr 1 0), (3, V.fv false (.bool false)), (6, V.ptr 6 0), (8, V.fv false (.int .i64 t.cu[i].2[k])), (22, V.fv ro (FV.sl t.fc 1 (rowsF t.cu))), (23, V.fv false (.int .i64 t.cu.length)), (24, V.fv false (.int .i64 i)), (28, V.fv ro (FV.sl t.cu[i].1 1 (ints t.cu[i].2))), (29, V.fv false (.int .i64 t.cu[i].2.length)), (30, V.fv false (.int .i64 k))], blk := [(1, Blk.box [V.fv ro (FV.sl t.fc 1 (rowsF t.cu)), V.fv ro (FV.sl t.fd 2 (ctrysF t.co))]), (6, Blk.box (bV D))] }) (by
            cases ok2 with
            | false => simp [unsetS]
            | true =>
              cases P with
              | true => simp at hno
              | false => simp [unsetS, hw3, e51]) ?_)  -- region 9
          refine ev_seq (ev_reg (by simp; rfl) ?_)  -- region 10
          refine ev_cond rfl (fun hb => by simp at hb) (fun hb => ?_)  -- 49
          refine ev_skip ?_
          refine ev_reg (by simp [hw2]; rfl) ?_  -- region 12
          refine ⟨(k + 1, false, D), by simp, ⟨by simp only; omega, hD, ?_, fun h => by simp at h⟩, by simp only; omega⟩
          simp only
          rw [hnx2, ← Bool.and_assoc, ← Bool.and_assoc, ← hn2, hno]; rfl
      · simp at hb2
        have hkn : k = t.cu[i].2.length := by omega
        subst hkn
        refine ev_exit ?_  -- 2
        refine ev_reg (by simp [hw1]; rfl) ?_  -- region 13
        refine ⟨(i + 1, ok2), rfl, ⟨by simp only; omega, ?_⟩, by simp only; omega⟩
        simp only
        rw [hnx, ← Bool.and_assoc, ← hn]
        exact hn2
  · simp at hb
    have hin : i = t.cu.length := by omega
    subst hin
    rw [List.take_length] at hn
    rw [codeT, okTrade, hsize, ← hn]
    clear hn hb hi
    refine ev_exit ?_  -- 0
    refine ev_seq (ev_seq (ev_reg (by simp; rfl) ?_))  -- region 14
    refine ev_block ?_  -- 4
    refine ev_loop (fun x : Nat × Bool => ({ env := [(1, V.ptr 1 0), (3, V.fv false (.bool x.2)), (55, V.fv ro (FV.sl t.fd 2 (ctrysF t.co))), (56, V.fv false (.int .i64 t.co.length)), (57, V.fv false (.int .i64 x.1))], blk := [(1, Blk.box [V.fv ro (FV.sl t.fc 1 (rowsF t.cu)), V.fv ro (FV.sl t.fd 2 (ctrysF t.co))])] } : St)) (fun x => t.co.length - x.1) (fun x => x.1 ≤ t.co.length ∧ x.2 = (ok && (t.co.take x.1).all (okCty t.cu.length))) (0, ok) (by simp) (by simp) (by simp [R]; omega) (fun x hx => ?_)
    clear hm5 hsize
    obtain ⟨j, ok2⟩ := x
    obtain ⟨hj, hn⟩ := hx
    simp only at hj hn
    refine ev_seq (ev_reg (by simp; rfl) ?_)  -- region 15
    refine ev_seq (ev_cond rfl (fun hb => ?_) (fun hb => ?_))  -- 58
    · simp at hb
      have hw1 : IntKind.i64.wrap ((j : Int) + 1) = (j + 1 : Nat) := wrap_nat (n := j + 1) (by omega)
      have hnx := all_take_succ (okCty t.cu.length) t.co j hb
      have e51 := fun r1 r2 r3 => h51 r1 r2 r3 t.co[j].1 0 8
      have e61 := h61 t.co[j].2.2 t.cu.length (ht.co _ (List.getElem_mem hb))
      rw [order_once] at e61
      have hgd : okCty t.cu.length t.co[j] = ((decide (0 ≤ t.co[j].1) && decide (t.co[j].1 ≤ 8)) && onceI t.co[j].2.2 t.cu.length) := rfl
      rw [hgd] at hnx
      obtain ⟨P, hP⟩ : ∃ P, (decide (0 ≤ t.co[j].1) && decide (t.co[j].1 ≤ 8)) = P := ⟨_, rfl⟩
      obtain ⟨Q, hQ⟩ : ∃ Q, onceI t.co[j].2.2 t.cu.length = Q := ⟨_, rfl⟩
      rw [hP] at e51
      rw [hQ] at e61
      simp only [hP, hQ] at hnx
      refine ev_skip ?_
      refine ev_seq (ev_block ?_)  -- 5
      refine ev_seq (ev_reg (by simp [hb, ctryF]; rfl) ?_)  -- region 16
      refine ev_reg (σ' := { env := [(1, V.ptr 1 0), (3, V.fv false (.bool (ok2 && (P && Q)))), (55, V.fv ro (FV.sl t.fd 2 (ctrysF t.co))), (56, V.fv false (.int .i64 t.co.length)), (57, V.fv false (.int .i64 j))], blk := [(1, Blk.box [V.fv ro (FV.sl t.fc 1 (rowsF t.cu)), V.fv ro (FV.sl t.fd 2 (ctrysF t.co))])] }) (by
        cases ok2 with
        | false => simp [unsetS]
        | true => cases P <;> simp [unsetS, e51, e61]) ?_  -- region 17
      refine ev_reg (by simp [hw1]; rfl) ?_  -- region 18
      refine ⟨(j + 1, (ok2 && (P && Q))), by simp, ⟨by simp only; omega, ?_⟩, by simp only; omega⟩
      simp only
      rw [hnx, hn, Bool.and_assoc]
    · simp at hb
      have hin : j = t.co.length := by omega
      subst hin
      rw [List.take_length] at hn
      rw [← hn]
      refine ev_exit ?_  -- 4
      refine ev_seq (ev_seq (ev_reg (by simp; rfl) ?_))  -- region 19
      cases ok2 with
      | false =>
        refine ev_cond rfl (fun hb => ?_) (fun hb => by simp at hb)  -- 77
        refine ev_seq (ev_reg (by simp; rfl) ?_)  -- region 20
        refine ev_ret ?_
        simp
      | true =>
        refine ev_cond rfl (fun hb => by simp at hb) (fun hb => ?_)  -- 77
        refine ev_skip ?_
        refine ev_seq (ev_reg (by simp; rfl) ?_)  -- region 21
        refine ev_ret ?_
        simp
end Go.Proofs.Ytoafhoihigfllaa.E
namespace Go.Proofs.Ytoafhoihigfllaa.E
open Go Go.RowKit
set_option linter.unusedVariables false
set_option linter.unusedSimpArgs false
theorem nodup_of_first {l : List Int} : (∀ k, (h : k < l.length) → l[k] ∉ l.take k) ↔ l.Nodup := by
  rw [List.Nodup, List.pairwise_iff_getElem]
  constructor
  · intro h i j hi hj hij e
    exact h j hj (List.mem_take_iff_getElem.mpr ⟨i, by omega, e⟩)
  · intro h k hk hm
    rw [List.mem_take_iff_getElem] at hm
    obtain ⟨j, hj, he⟩ := hm
    exact h j k (by omega) hk (by omega) he
theorem okRow_iff {m : Nat} {l : List Int} : okRow m l = true ↔ l.Nodup ∧ ∀ x ∈ l, 0 ≤ x ∧ x < m := by
  unfold okRow
  rw [List.all_eq_true, ← nodup_of_first]
  have hg : ∀ k, (h : k < l.length) → goodT m l k = ((decide (0 ≤ l[k]) && decide (l[k] ≤ (m : Int) - 1)) && !decide (l[k] ∈ l.take k)) := fun k h => by
    rw [goodT, show l.getD k 0 = l[k] by simp [List.getD_eq_getElem?_getD, List.getElem?_eq_getElem h], idx_first _ _ h]
  constructor
  · intro h
    refine ⟨fun k hk => ?_, fun x hx => ?_⟩
    · have := h k (List.mem_range.mpr hk)
      rw [hg k hk] at this
      simp only [Bool.and_eq_true, Bool.not_eq_true', decide_eq_false_iff_not] at this
      exact this.2
    · obtain ⟨k, hk, rfl⟩ := List.getElem_of_mem hx
      have := h k (List.mem_range.mpr hk)
      rw [hg k hk] at this
      simp only [Bool.and_eq_true, decide_eq_true_eq] at this
      omega
  · intro ⟨h1, h2⟩ k hk
    have hk := List.mem_range.mp hk
    rw [hg k hk]
    have := h2 _ (List.getElem_mem hk)
    simp only [Bool.and_eq_true, Bool.not_eq_true', decide_eq_false_iff_not, decide_eq_true_eq]
    exact ⟨by omega, h1 k hk⟩
theorem nodup_len : ∀ (m : Nat) (l : List Int), l.Nodup → (∀ x ∈ l, 0 ≤ x ∧ x < m) → l.length ≤ m
  | 0, l, _, h => by
    cases l with
    | nil => exact Nat.le_refl _
    | cons x l => have := h x List.mem_cons_self; omega
  | m + 1, l, hn, h => by
    have ih := nodup_len m (l.erase (m : Int)) (hn.erase _) (fun x hx => by
      rw [hn.mem_erase_iff] at hx
      have := h x hx.2
      have := hx.1
      omega)
    have := List.le_length_erase (a := (m : Int)) (l := l)
    omega
theorem okTrade_iff {t : Trade} : okTrade t = true ↔ TradeOk t := by
  unfold okTrade
  simp only [Bool.and_eq_true, List.all_eq_true, okSize, decide_eq_true_eq, okRow_iff, okCty, once_iff]
  constructor
  · rintro ⟨⟨⟨⟨a1, a2⟩, a3, a4⟩, h1⟩, h2⟩
    refine ⟨⟨by omega, by omega⟩, ⟨by omega, by omega⟩, fun i hi => ?_, fun c hc => ?_, fun c hc => ?_⟩
    · rw [listAt_get hi]; exact h1 _ (List.getElem_mem _)
    · rw [roomAt_get hc]; exact (h2 _ (List.getElem_mem _)).1
    · rw [likesAt_get hc]; exact (h2 _ (List.getElem_mem _)).2
  · intro h
    refine ⟨⟨⟨⟨by have := h.n; omega, by have := h.n; omega⟩, by have := h.m; omega, by have := h.m; omega⟩, fun p hp => ?_⟩, fun p hp => ?_⟩
    · obtain ⟨i, hi, rfl⟩ := List.getElem_of_mem hp
      have := h.cu i hi
      rw [listAt_get hi] at this; exact this
    · obtain ⟨c, hc, rfl⟩ := List.getElem_of_mem hp
      have h1 := h.room c hc
      have h2 := h.likes c hc
      rw [roomAt_get hc] at h1
      rw [likesAt_get hc] at h2
      exact ⟨h1, h2⟩
theorem TradeOk.row {t : Trade} (h : TradeOk t) (i : Nat) : (listAt t i).length ≤ t.co.length := by
  by_cases hi : i < t.cu.length
  · exact nodup_len _ _ (h.cu i hi).1 (h.cu i hi).2
  · simp [listAt, List.getD_eq_getElem?_getD, List.getElem?_eq_none (show t.cu.length ≤ i by omega)]
theorem TradeOk.row62 {t : Trade} (h : TradeOk t) (i : Nat) : (listAt t i).length < 2^62 := by
  have := h.row i; have := h.m; omega
theorem TradeOk.pairs {t : Trade} (h : TradeOk t) : (pairsT t).length < 2^62 := by
  have key : ∀ k, ((List.range k).flatMap fun i => (listAt t i).map fun c => (i, c.toNat)).length ≤ k * 5 := by
    intro k
    induction k with
    | zero => simp
    | succ k ih =>
      rw [List.range_succ, List.flatMap_append, List.length_append]
      have := h.row k
      have := h.m
      simp at ih ⊢
      omega
  have := key t.cu.length
  have := h.n
  unfold pairsT
  omega
theorem v43 (ctx : Ctx) (hC : CtxOk (pg ctx)) (h36 : H36 ctx) (h40 : H40 ctx) (t : Trade) (h32 : ctx 32 [(false, tradeF t)] = some [.fv (.int .i64 (codeT t))]) :
    Valid Try.prog 43 [(false, tradeF t)] [.fv (.bool (okTrade t))] := by
  refine valid_of_ev (G := pg ctx) (tok ctx) hC mixed Try.func43 T43 L43 (by simp [Try.ntmps43]) ⟨_, rfl, ?_⟩
  unfold codeT at h32
  have hok : okTrade t = true → TradeOk t := okTrade_iff.mp
  generalize okTrade t = ok at *
  simp only [tradeF, cellsT] at h32
  simp only [Try.ntmps43, Try.results43, initSt, initEnv, tradeF, cellsT]
  refine ev_seq (ev_reg (by simp [boxA, vcells]; rfl) ?_)  -- region 0
  cases ok with
  | false =>
    refine ev_seq (ev_reg (by simp [h32, unsetS]; rfl) ?_)  -- region 1
    refine ev_seq (ev_seq (ev_reg (by simp; rfl) ?_))  -- region 2
    refine ev_block ?_  -- 0
    refine ev_loop (fun y : Nat => ({ env := [(1, V.ptr 1 0), (3, V.fv false (.bool false)), (4, V.fv false (.int .i64 0))], blk := [(1, Blk.box [V.fv false (FV.sl t.fc 1 (rowsF t.cu)), V.fv false (FV.sl t.fd 2 (ctrysF t.co))])] } : St)) (fun y => 1) (fun y => True) 0 (by simp) trivial (by simp [R]) (fun y hy => ?_)
    refine ev_seq (ev_seq (ev_reg (by simp [unsetS]; rfl) ?_))  -- region 3
    refine ev_cond rfl (fun hb => by simp at hb) (fun hb => ?_)  -- 30
    refine ev_exit ?_  -- 0
    refine ev_seq (ev_seq (ev_reg (by simp; rfl) ?_))  -- region 10
    refine ev_block ?_  -- 4
    refine ev_loop (fun y : Nat => ({ env := [(1, V.ptr 1 0), (3, V.fv false (.bool false)), (6, V.fv false (.int .i64 0))], blk := [(1, Blk.box [V.fv false (FV.sl t.fc 1 (rowsF t.cu)), V.fv false (FV.sl t.fd 2 (ctrysF t.co))])] } : St)) (fun y => 1) (fun y => True) 0 (by simp) trivial (by simp [R]) (fun y hy => ?_)
    refine ev_seq (ev_seq (ev_reg (by simp [unsetS]; rfl) ?_))  -- region 11
    refine ev_cond rfl (fun hb => by simp at hb) (fun hb => ?_)  -- 76
    refine ev_exit ?_  -- 4
    refine ev_seq (ev_reg (by simp; rfl) ?_)  -- region 18
    refine ev_ret ?_
    simp
  | true =>
    have hT := hok rfl
    have hA : ∀ (r1 r2 r3 : Bool), ctx 36 [(r1, .int .i64 t.cu.length), (r2, .int .i64 1), (r3, .int .i64 8)] = some [.fv (.bool true)] := fun r1 r2 r3 => by
      rw [h36 r1 r2 r3]; have := hT.n; simp; omega
    have hB : ∀ (r1 r2 r3 : Bool), ctx 36 [(r1, .int .i64 t.co.length), (r2, .int .i64 1), (r3, .int .i64 5)] = some [.fv (.bool true)] := fun r1 r2 r3 => by
      rw [h36 r1 r2 r3]; have := hT.m; simp; omega
    have hn := hT.n
    have hm := hT.m
    refine ev_seq (ev_reg (by simp [h32, hA, hB]; rfl) ?_)  -- region 1
    refine ev_seq (ev_seq (ev_reg (by simp; rfl) ?_))  -- region 2
    refine ev_block ?_  -- 0
    refine ev_loop (fun i : Nat => ({ env := [(1, V.ptr 1 0), (3, V.fv false (.bool true)), (4, V.fv false (.int .i64 i))], blk := [(1, Blk.box [V.fv false (FV.sl t.fc 1 (rowsF t.cu)), V.fv false (FV.sl t.fd 2 (ctrysF t.co))])] } : St)) (fun i => t.cu.length - i) (fun i => i ≤ t.cu.length) 0 (by simp) (by simp) (by simp [R]; omega) (fun i hi => ?_)
    refine ev_seq (ev_seq (ev_reg (by simp; rfl) ?_))  -- region 3
    refine ev_cond rfl (fun hb => ?_) (fun hb => ?_)  -- 30
    · simp at hb
      have hw1 : IntKind.i64.wrap ((i : Int) + 1) = (i + 1 : Nat) := wrap_nat (n := i + 1) (by omega)
      have hrow := hT.row i
      have hcu := hT.cu i hb
      rw [listAt_get hb] at hrow hcu
      refine ev_skip ?_
      refine ev_seq (ev_block ?_)  -- 1
      refine ev_seq (ev_drw rfl (by kernel_rfl) (by kernel_rfl) (by simp [hb, rowF, hrow]; rfl) ?_)  -- region 5
      refine ev_seq (ev_reg (by simp; rfl) ?_)  -- region 6
      refine ev_block ?_  -- 2
      refine ev_loop (fun k : Nat => ({ env := [(1, V.ptr 1 0), (3, V.fv false (.bool true)), (4, V.fv false (.int .i64 i)), (5, V.fv false (.int .i64 k))], blk := [(1, Blk.box [V.fv false (FV.sl t.fc 1 (rowsF t.cu)), V.fv false (FV.sl t.fd 2 (ctrysF t.co))])] } : St)) (fun k => t.cu[i].2.length - k) (fun k => k ≤ t.cu[i].2.length) 0 (by simp) (by simp) (by simp [R]; omega) (fun k hk => ?_)
      refine ev_seq (ev_seq (ev_reg (by simp [hb, rowF]; rfl) ?_))  -- region 7
      refine ev_cond rfl (fun hb2 => ?_) (fun hb2 => ?_)  -- 53
      · simp at hb2
        have hw2 : IntKind.i64.wrap ((k : Int) + 1) = (k + 1 : Nat) := wrap_nat (n := k + 1) (by omega)
        have hw3 : IntKind.i64.wrap ((t.co.length : Int) - 1) = (t.co.length : Int) - 1 := wrap_id (by omega) (by omega)
        have hx := hcu.2 _ (List.getElem_mem hb2)
        have e36 : ∀ r1 r2 r3, ctx 36 [(r1, .int .i64 t.cu[i].2[k]), (r2, .int .i64 0), (r3, .int .i64 ((t.co.length : Int) - 1))] = some [.fv (.bool true)] := fun r1 r2 r3 => by
          rw [h36 r1 r2 r3]; simp; omega
        refine ev_skip ?_
        refine ev_seq (ev_block ?_)  -- 3
        refine ev_drw rfl (by kernel_rfl) (by kernel_rfl) (by simp [hb, hb2, rowF, hw3, e36]; rfl) ?_  -- region 9
        refine ev_reg (by simp [hw2]; rfl) ?_  -- region 8
        exact ⟨k + 1, by simp, by omega, by omega⟩
      · simp at hb2
        refine ev_exit ?_  -- 2
        refine ev_reg (by simp [hw1]; rfl) ?_  -- region 4
        exact ⟨i + 1, by simp, by omega, by omega⟩
    · simp at hb
      refine ev_exit ?_  -- 0
      refine ev_seq (ev_seq (ev_reg (by simp; rfl) ?_))  -- region 10
      refine ev_block ?_  -- 4
      refine ev_loop (fun j : Nat => ({ env := [(1, V.ptr 1 0), (3, V.fv false (.bool true)), (6, V.fv false (.int .i64 j))], blk := [(1, Blk.box [V.fv false (FV.sl t.fc 1 (rowsF t.cu)), V.fv false (FV.sl t.fd 2 (ctrysF t.co))])] } : St)) (fun j => t.co.length - j) (fun j => j ≤ t.co.length) 0 (by simp) (by simp) (by simp [R]; omega) (fun j hj => ?_)
      refine ev_seq (ev_seq (ev_reg (by simp; rfl) ?_))  -- region 11
      refine ev_cond rfl (fun hb => ?_) (fun hb => ?_)  -- 76
      · simp at hb
        have hw1 : IntKind.i64.wrap ((j : Int) + 1) = (j + 1 : Nat) := wrap_nat (n := j + 1) (by omega)
        have hlk := hT.likes j hb
        rw [likesAt_get hb] at hlk
        have hll : (t.co[j].2.2.length : Int) = t.cu.length := by rw [hlk.len]
        refine ev_skip ?_
        refine ev_seq (ev_block ?_)  -- 5
        refine ev_seq (ev_drw rfl (by kernel_rfl) (by kernel_rfl) (by simp [hb, ctryF, hll, hlk.len]; rfl) ?_)  -- region 13
        refine ev_seq (ev_reg (by simp; rfl) ?_)  -- region 14
        refine ev_block ?_  -- 6
        refine ev_loop (fun k : Nat => ({ env := [(1, V.ptr 1 0), (3, V.fv false (.bool true)), (6, V.fv false (.int .i64 j)), (7, V.fv false (.int .i64 k))], blk := [(1, Blk.box [V.fv false (FV.sl t.fc 1 (rowsF t.cu)), V.fv false (FV.sl t.fd 2 (ctrysF t.co))])] } : St)) (fun k => t.cu.length - k) (fun k => k ≤ t.cu.length) 0 (by simp) (by simp) (by simp [R]; omega) (fun k hk => ?_)
        refine ev_seq (ev_seq (ev_reg (by simp; rfl) ?_))  -- region 15
        refine ev_cond rfl (fun hb2 => ?_) (fun hb2 => ?_)  -- 97
        · simp at hb2
          have hw2 : IntKind.i64.wrap ((k : Int) + 1) = (k + 1 : Nat) := wrap_nat (n := k + 1) (by omega)
          have e40 := h40 t.co[j].2.2 k (by rw [hlk.len]; omega)
          have hpos : 0 ≤ idx (· == (k : Int)) t.co[j].2.2 := by
            obtain ⟨i, hi⟩ : ∃ i, t.co[j].2.2.findIdx? (· == (k : Int)) = some i := by
              rw [← Option.isSome_iff_exists, List.findIdx?_isSome, List.any_eq_true]
              exact ⟨_, Wish.mem hlk hb2, by simp⟩
            simp [idx, hi]
          generalize idx (· == (k : Int)) t.co[j].2.2 = x at *
          refine ev_skip ?_
          refine ev_seq (ev_block ?_)  -- 7
          refine ev_reg (by simp [hb, ctryF, e40, hpos]; rfl) ?_  -- region 17
          refine ev_reg (by simp [hw2]; rfl) ?_  -- region 16
          exact ⟨k + 1, by simp, by omega, by omega⟩
        · simp at hb2
          refine ev_exit ?_  -- 6
          refine ev_reg (by simp [hw1]; rfl) ?_  -- region 12
          exact ⟨j + 1, by simp, by omega, by omega⟩
      · simp at hb
        refine ev_exit ?_  -- 4
        refine ev_seq (ev_reg (by simp; rfl) ?_)  -- region 18
        refine ev_ret ?_
        simp
end Go.Proofs.Ytoafhoihigfllaa.E
