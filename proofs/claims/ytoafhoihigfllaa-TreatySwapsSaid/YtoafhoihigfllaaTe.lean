/-
  The chapter of the treaty: shares. Conditions: none.
-/
import Derived.Test.YtoafhoihigfllaaTd
namespace Go.Proofs.Ytoafhoihigfllaa.E
open Go Go.RowKit
set_option linter.unusedVariables false
set_option linter.unusedSimpArgs false
def H18 (ctx : Ctx) : Prop := ∀ (q : Int) (l : List Int) (ro c : Bool), l.length < 2^62 → ctx 18 [(ro, fClaims q c l)] = some [.fv (.int .i64 (if okClaims q l then 0 else 100))]
def H49 (ctx : Ctx) : Prop := ∀ (q : Int) (l : List Int) (ro c r3 : Bool) (level : Int), l.length < 2^40 → ctx 49 [(ro, fClaims q c l), (r3, .int .i64 level)] = some [.us 1 (ints (atI l level))]
/-- what all get at a level -/
def sumAt (l : List Int) (n : Int) : Int := sumI (atI l n)
/-- the level that the search finds -/
def IsLevel (q : Int) (l : List Int) (n : Int) : Prop := 0 ≤ n ∧ n ≤ 100000 ∧ sumAt l n ≤ q ∧ (n = 100000 ∨ q < sumAt l (n + 1))
/-- one more for a nation -/
def spreadStep (n : Int) (s : List Int × Int) (r : Int) : List Int × Int := if 0 < s.2 ∧ n < r then (s.1 ++ [minI r n + 1], s.2 - 1) else (s.1 ++ [minI r n], s.2)
def spread (n left : Int) (l : List Int) : List Int × Int := l.foldl (spreadStep n) ([], left)
theorem spread_take {n left : Int} {l : List Int} {i : Nat} (h : i < l.length) : spread n left (l.take (i + 1)) = spreadStep n (spread n left (l.take i)) l[i] := by
  simp only [spread, List.take_add_one, List.getElem?_eq_getElem h, Option.toList_some, List.foldl_append, List.foldl_cons, List.foldl_nil]
theorem spread_le {n left : Int} : ∀ {l : List Int} {i : Nat}, i ≤ l.length → (spread n left (l.take i)).2 ≤ left
  | l, 0, _ => by simp [spread]
  | l, i + 1, h => by
    rw [spread_take (by omega), spreadStep]
    have := spread_le (n := n) (left := left) (l := l) (i := i) (by omega)
    split
    · simp only; omega
    · exact this
theorem wrap_lt (n : Int) : IntKind.i64.wrap n < 9223372036854775808 := by
  show (if (true && decide (n % 18446744073709551616 ≥ 9223372036854775808)) = true then n % 18446744073709551616 - 18446744073709551616 else n % 18446744073709551616) < 9223372036854775808
  simp only [Bool.true_and, decide_eq_true_eq]
  split <;> omega
theorem spread_length {n left : Int} : ∀ {l : List Int} {i : Nat}, i ≤ l.length → (spread n left (l.take i)).1.length = i
  | l, 0, _ => by simp [spread]
  | l, i + 1, h => by
    rw [spread_take (by omega), spreadStep]
    have := spread_length (n := n) (left := left) (l := l) (i := i) (by omega)
    split <;> simp [this]
def sharesOf (q : Int) (l : List Int) (n : Int) : List Int := (spread n (IntKind.i64.wrap (q - sumAt l n)) l).1
theorem v15 (ctx : Ctx) (hC : CtxOk (pg ctx)) (h18 : H18 ctx) (h48 : H48 ctx) (h49 : H49 ctx) (q : Int) (l : List Int) (hl : l.length < 2^62) (ro c : Bool) (hbad : okClaims q l = false) :
    Valid Try.prog 15 [(ro, fClaims q c l)] [.us 1 [], .fv (.int .i64 100)] := by
  refine valid_of_ev (G := pg ctx) (tok ctx) hC mixed Try.func15 T15 L15 (by simp [Try.ntmps15]) ⟨_, rfl, ?_⟩
  simp only [Try.ntmps15, Try.results15, initSt, initEnv, fClaims]
  have e18 := fun ro => h18 q l ro c hl
  simp only [fClaims, hbad] at e18
  refine ev_seq (ev_reg (by simp; rfl) ?_)  -- region 0
  refine ev_seq (ev_seq (ev_reg (by simp [e18]; rfl) ?_))  -- region 1
  refine ev_seq (ev_reg (by simp; rfl) ?_)  -- region 2
  refine ev_cond rfl (fun hb => ?_) (fun hb => ?_)  -- 15
  · refine ev_seq (ev_reg (by simp; rfl) ?_)  -- region 3
    refine ev_ret ?_
    simp
  · simp at hb
/-- the search by halves -/
def bis (q : Int) (l : List Int) : Nat → Int → Int → Int
  | 0, lo, _ => lo
  | f + 1, lo, hi => if 1 < hi - lo then (if sumAt l ((lo + hi) / 2) ≤ q then bis q l f ((lo + hi) / 2) hi else bis q l f lo ((lo + hi) / 2)) else lo
def lvl (q : Int) (l : List Int) : Int := bis q l 100001 0 100001
theorem v15g (ctx : Ctx) (hC : CtxOk (pg ctx)) (h18 : H18 ctx) (h48 : H48 ctx) (h49 : H49 ctx) (q : Int) (l : List Int) (hl : l.length < 2^40) (ro c : Bool) (hok : okClaims q l = true) :
    Valid Try.prog 15 [(ro, fClaims q c l)] [.us 1 (ints (sharesOf q l (lvl q l))), .fv (.int .i64 0)] := by
  refine valid_of_ev (G := pg ctx) (tok ctx) hC mixed Try.func15 T15 L15 (by simp [Try.ntmps15]) ⟨_, rfl, ?_⟩
  simp only [Try.ntmps15, Try.results15, initSt, initEnv, fClaims]
  have e18 := fun ro => h18 q l ro c (by omega)
  have e49 := fun ro r3 level => h49 q l ro c r3 level hl
  have hlen : ∀ n, (atI l n).length = l.length := fun n => by simp [atI]
  have htk : ∀ n, (atI l n).take l.length = atI l n := fun n => List.take_of_length_le (by rw [hlen]; omega)
  have e48 := fun ro c n => h48 ro c (atI l n) (by rw [hlen]; omega)
  simp only [fClaims, hok, if_true] at e18 e49
  refine ev_seq (ev_reg (by simp; rfl) ?_)  -- region 0
  refine ev_seq (ev_seq (ev_reg (by simp [e18]; rfl) ?_))  -- region 1
  refine ev_seq (ev_reg (by simp; rfl) ?_)  -- region 2
  refine ev_cond rfl (fun hb => by simp at hb) (fun hb => ?_)  -- 15
  refine ev_skip ?_
  refine ev_seq (ev_reg (by simp; rfl) ?_)  -- region 4
  refine ev_seq (ev_reg (by simp; rfl) ?_)  -- region 5
  refine ev_seq (ev_block ?_)  -- 0
  refine ev_loop (fun x : Int × Int => ({ env := [(5, .ptr 5 0), (6, .fv false (.int .i64 x.1)), (7, .fv false (.int .i64 x.2))], blk := [(5, .box [.fv false (.int .i64 q), .fv ro (.sl c 1 (ints l))])] } : St)) (fun x => (x.2 - x.1).toNat) (fun x => 0 ≤ x.1 ∧ x.1 < x.2 ∧ x.2 ≤ 100001 ∧ ∃ f : Nat, x.2 - x.1 ≤ f ∧ bis q l f x.1 x.2 = lvl q l) (0, 100001) rfl (by simp; exact ⟨100001, by omega, rfl⟩) (by simp [R]) (fun x hi => ?_)
  obtain ⟨lo, hi'⟩ := x
  obtain ⟨h0, h1, h2, f, h3, h4⟩ := hi
  simp only at h0 h1 h2 h3 h4
  have hw : IntKind.i64.wrap (hi' - lo) = hi' - lo := wrap_id (by omega) (by omega)
  refine ev_seq (ev_seq (ev_reg (by simp [hw]; rfl) ?_))  -- region 6
  refine ev_cond rfl (fun hb => ?_) (fun hb => ?_)  -- 22
  · simp at hb
    obtain ⟨f, rfl⟩ : ∃ g, f = g + 1 := ⟨f - 1, by omega⟩
    simp only [bis, hb, if_true] at h4
    have hm : IntKind.i64.wrap ((IntKind.i64.wrap (lo + hi')).tdiv 2) = (lo + hi') / 2 := by
      rw [wrap_id (n := lo + hi') (by omega) (by omega), Int.tdiv_eq_ediv_of_nonneg (by omega)]
      exact wrap_id (by omega) (by omega)
    refine ev_skip ?_
    refine ev_block ?_  -- 1
    refine ev_seq (ev_reg (by simp [hm]; rfl) ?_)  -- region 7
    refine ev_seq (ev_drw rfl (by kernel_rfl) (by kernel_rfl) (by simp [e49, e48]; rfl) ?_)  -- region 8
    refine ev_cond rfl (fun hb2 => ?_) (fun hb2 => ?_)  -- 34
    · simp only [decide_eq_true_eq] at hb2
      refine ev_reg (by simp; rfl) ?_  -- region 9
      refine ⟨((lo + hi') / 2, hi'), rfl, ⟨by simp only; omega, by simp only; omega, by simp only; omega, f, by simp only; omega, ?_⟩, by simp only; omega⟩
      rw [if_pos (show sumAt l ((lo + hi') / 2) ≤ q from hb2)] at h4
      exact h4
    · simp only [decide_eq_false_iff_not] at hb2
      refine ev_reg (by simp; rfl) ?_  -- region 10
      refine ⟨(lo, (lo + hi') / 2), rfl, ⟨by simp only; omega, by simp only; omega, by simp only; omega, f, by simp only; omega, ?_⟩, by simp only; omega⟩
      rw [if_neg (show ¬ sumAt l ((lo + hi') / 2) ≤ q from hb2)] at h4
      exact h4
  · simp at hb
    have hlo : lo = lvl q l := by
      rw [← h4]
      cases f with
      | zero => rfl
      | succ f => rw [bis, if_neg (by omega)]
    rw [← hlo]
    clear hlo h4 h3
    refine ev_exit ?_  -- 0
    refine ev_seq (ev_reg (by simp [e49, hlen]; rfl) ?_)  -- region 11
    refine ev_seq (ev_drw rfl (by kernel_rfl) (by kernel_rfl) (by simp [e48, hlen, htk]; rfl) ?_)  -- region 12
    refine ev_seq (ev_seq (ev_reg (by simp [hlen]; rfl) ?_))  -- region 13
    refine ev_block ?_  -- 2
    -- what has been handed out ahead of each round
    have hst : ∀ i, i ≤ l.length → (spread lo (IntKind.i64.wrap (q - sumAt l lo)) (l.take i)).1.length = i := fun i hi => spread_length hi
    have hok' := wrap_lt (q - sumAt l lo)
    refine ev_loop (fun i : Nat => ({ env := [(5, .ptr 5 0), (6, .fv false (.int .i64 lo)), (9, .own 9 0 l.length), (10, .fv false (.int .i64 (spread lo (IntKind.i64.wrap (q - sumAt l lo)) (l.take i)).2)), (47, .fv false (.int .i64 l.length)), (48, .fv false (.int .i64 i))], blk := [(5, .box [.fv false (.int .i64 q), .fv ro (.sl c 1 (ints l))]), (9, .arr 1 (ints ((spread lo (IntKind.i64.wrap (q - sumAt l lo)) (l.take i)).1 ++ atI (l.drop i) lo)))] } : St)) (fun i => l.length - i) (fun i => i ≤ l.length) 0 (by simp [spread, sumAt]) (by simp) (by simp [R]; omega) (fun i hi => ?_)
    have hsp : ∀ h : i < l.length, spread lo (IntKind.i64.wrap (q - sumAt l lo)) (l.take (i + 1)) = spreadStep lo (spread lo (IntKind.i64.wrap (q - sumAt l lo)) (l.take i)) l[i] := fun h => spread_take h
    have hspl := hst i hi
    have hrange := spread_le (n := lo) (left := IntKind.i64.wrap (q - sumAt l lo)) hi
    generalize hs1 : spread lo (IntKind.i64.wrap (q - sumAt l lo)) (l.take i) = sp at hsp hspl hrange
    clear hst
    generalize hL : IntKind.i64.wrap (q - sumAt l lo) = left0 at hsp hrange hok'
    have hget : ∀ (hb : i < l.length) h, (sp.1 ++ atI (l.drop i) lo)[i]'h = minI l[i] lo := fun hb h => by
      rw [List.getElem_append_right (by omega)]
      simp [atI, hspl]
    have hset : ∀ (hb : i < l.length) v, (sp.1 ++ atI (l.drop i) lo).set i v = sp.1 ++ v :: atI (l.drop (i + 1)) lo := fun hb v => by
      rw [List.set_append_right _ _ (by omega), hspl, Nat.sub_self, List.drop_eq_getElem_cons hb]
      rfl
    have hlt : (sp.1 ++ atI (l.drop i) lo).length = l.length := by simp [atI, hspl]; omega
    have hkeep : ∀ (hb : i < l.length), sp.1 ++ atI (l.drop i) lo = sp.1 ++ minI l[i] lo :: atI (l.drop (i + 1)) lo := fun hb => by
      rw [List.drop_eq_getElem_cons hb]; rfl
    have hend : i = l.length → sp.1 ++ atI (l.drop i) lo = sp.1 := fun e => by rw [e]; simp [atI]
    generalize hout : sp.1 ++ atI (l.drop i) lo = out at hget hset hlt hkeep hend
    refine ev_seq (ev_reg (by simp; rfl) ?_)  -- region 14
    refine ev_seq (ev_cond rfl (fun hb => ?_) (fun hb => ?_))  -- 49
    · simp at hb
      have hw1 : IntKind.i64.wrap ((i : Int) + 1) = (i + 1 : Nat) := wrap_nat (n := i + 1) (by omega)
      refine ev_skip ?_
      refine ev_seq (ev_block ?_)  -- 3
      refine ev_seq (ev_reg (by simp; rfl) ?_)  -- region 15
      have skip : ¬ (0 < sp.2 ∧ lo < l[i]) → (⟨[(5, V.ptr 5 0), (6, .fv false (.int .i64 lo)), (9, .own 9 0 l.length), (10, .fv false (.int .i64 sp.2)), (47, .fv false (.int .i64 l.length)), (48, .fv false (.int .i64 (i + 1 : Nat)))], [(5, Blk.box [.fv false (.int .i64 q), .fv ro (.sl c 1 (ints l))]), (9, .arr 1 (ints out))], []⟩ : St) = ⟨[(5, V.ptr 5 0), (6, .fv false (.int .i64 lo)), (9, .own 9 0 l.length), (10, .fv false (.int .i64 (spread lo left0 (l.take (i + 1))).2)), (47, .fv false (.int .i64 l.length)), (48, .fv false (.int .i64 (i + 1 : Nat)))], [(5, Blk.box [.fv false (.int .i64 q), .fv ro (.sl c 1 (ints l))]), (9, .arr 1 (ints ((spread lo left0 (l.take (i + 1))).1 ++ atI (l.drop (i + 1)) lo)))], []⟩ := fun hn => by
        rw [hsp hb, spreadStep, if_neg hn, hkeep hb, List.append_assoc]; rfl
      by_cases hc : 0 < sp.2
      · by_cases hd : lo < l[i]
        · refine ev_seq (ev_reg (by simp [hc, hd, hb, hlt]; rfl) ?_)  -- region 16
          refine ev_cond rfl (fun hb2 => ?_) (fun hb2 => by simp at hb2)  -- 62
          refine ev_seq (ev_reg (by simp [hb, hlt, hget, hset]; rfl) ?_)  -- region 17
          have hw2 : IntKind.i64.wrap (sp.2 - 1) = sp.2 - 1 := wrap_id (by omega) (by omega)
          refine ev_reg (by simp [hw2]; rfl) ?_  -- region 18
          refine ev_reg (by simp [hw1]; rfl) ?_  -- region 19
          refine ⟨i + 1, ?_, by omega, by omega⟩
          have hm : minI l[i] lo = lo := by simp only [minI, if_pos hd]
          have hw3 : IntKind.i64.wrap (lo + 1) = lo + 1 := wrap_id (by omega) (by omega)
          rw [hsp hb, spreadStep, if_pos ⟨hc, hd⟩]
          simp [hm, hw3]
        · refine ev_seq (ev_reg (by simp [hc, hd, hb, hlt]; rfl) ?_)  -- region 16
          refine ev_cond rfl (fun hb2 => by simp at hb2) (fun hb2 => ?_)  -- 62
          refine ev_skip ?_
          refine ev_reg (by simp [hw1]; rfl) ?_  -- region 19
          exact ⟨i + 1, skip (fun h => hd h.2), by omega, by omega⟩
      · refine ev_seq (ev_reg (by simp [hc, hb, hlt]; rfl) ?_)  -- region 16
        refine ev_cond rfl (fun hb2 => by simp at hb2) (fun hb2 => ?_)  -- 62
        refine ev_skip ?_
        refine ev_reg (by simp [hw1]; rfl) ?_  -- region 19
        exact ⟨i + 1, skip (fun h => hc h.1), by omega, by omega⟩
    · simp at hb
      have hie : i = l.length := by omega
      refine ev_exit ?_  -- 2
      refine ev_seq (ev_reg (by simp; rfl) ?_)  -- region 20
      refine ev_ret ?_
      subst hie
      rw [List.take_length, hL] at hs1
      simp [hspl, sharesOf, hL, hs1, hend rfl]
end Go.Proofs.Ytoafhoihigfllaa.E
