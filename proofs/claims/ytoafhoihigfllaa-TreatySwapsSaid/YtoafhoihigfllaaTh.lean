/-
  The chapter of the treaty: the specification's shares. Conditions: none.
-/
import Derived.Test.YtoafhoihigfllaaTg
namespace Go.Proofs.Ytoafhoihigfllaa.E
open Go Go.RowKit
set_option linter.unusedVariables false
set_option linter.unusedSimpArgs false

def H19 (ctx : Ctx) : Prop := ∀ (q : Int) (l : List Int) (ro c : Bool), l.length < 2^62 → ctx 19 [(ro, fClaims q c l)] = some [.fv (.int .i64 (if okClaims q l then 0 else 100))]
def H50 (ctx : Ctx) : Prop := ∀ (q : Int) (l : List Int) (ro c r3 : Bool) (level : Int), l.length < 2^40 → ctx 50 [(ro, fClaims q c l), (r3, .int .i64 level)] = some [.us 1 (ints (atI l level))]
/-- the search step by step -/
def lin (q : Int) (l : List Int) : Nat → Int → Int
  | 0, n => n
  | f + 1, n => if sumAt l (n + 1) ≤ q then lin q l f (n + 1) else n
def lvlR (q : Int) (l : List Int) : Int := lin q l 100000 0
theorem v16 (ctx : Ctx) (hC : CtxOk (pg ctx)) (h19 : H19 ctx) (q : Int) (l : List Int) (hl : l.length < 2^62) (ro c : Bool) (hbad : okClaims q l = false) :
    Valid Try.prog 16 [(ro, fClaims q c l)] [.us 1 [], .fv (.int .i64 100)] := by
  refine valid_of_ev (G := pg ctx) (tok ctx) hC mixed Try.func16 T16 L16 (by simp [Try.ntmps16]) ⟨_, rfl, ?_⟩
  simp only [Try.ntmps16, Try.results16, initSt, initEnv, fClaims]
  have e19 := fun ro => h19 q l ro c hl
  simp only [fClaims, hbad] at e19
  refine ev_seq (ev_reg (by simp; rfl) ?_)  -- region 0
  refine ev_seq (ev_seq (ev_reg (by simp [e19]; rfl) ?_))  -- region 1
  refine ev_seq (ev_reg (by simp; rfl) ?_)  -- region 2
  refine ev_cond rfl (fun hb => ?_) (fun hb => by simp at hb)  -- 12
  refine ev_seq (ev_reg (by simp; rfl) ?_)  -- region 3
  refine ev_ret ?_
  simp
theorem v16g (ctx : Ctx) (hC : CtxOk (pg ctx)) (h19 : H19 ctx) (h38 : H38 ctx) (h50 : H50 ctx) (q : Int) (l : List Int) (hl : l.length < 2^40) (ro c : Bool) (hok : okClaims q l = true) :
    Valid Try.prog 16 [(ro, fClaims q c l)] [.us 1 (ints (sharesOf q l (lvlR q l))), .fv (.int .i64 0)] := by
  refine valid_of_ev (G := pg ctx) (tok ctx) hC mixed Try.func16 T16 L16 (by simp [Try.ntmps16]) ⟨_, rfl, ?_⟩
  simp only [Try.ntmps16, Try.results16, initSt, initEnv, fClaims]
  have e18 := fun ro => h19 q l ro c (by omega)
  have e49 := fun ro r3 level => h50 q l ro c r3 level hl
  have hlen : ∀ n, (atI l n).length = l.length := fun n => by simp [atI]
  have htk : ∀ n, (atI l n).take l.length = atI l n := fun n => List.take_of_length_le (by rw [hlen]; omega)
  have e48 := fun ro c n => h38 ro c (atI l n) (by rw [hlen]; omega)
  simp only [fClaims, hok, if_true] at e18 e49
  refine ev_seq (ev_reg (by simp; rfl) ?_)  -- region 0
  refine ev_seq (ev_seq (ev_reg (by simp [e18]; rfl) ?_))  -- region 1
  refine ev_seq (ev_reg (by simp; rfl) ?_)  -- region 2
  refine ev_cond rfl (fun hb => by simp at hb) (fun hb => ?_)  -- 12
  refine ev_skip ?_
  refine ev_seq (ev_reg (by simp; rfl) ?_)  -- region 4
  refine ev_seq (ev_block ?_)  -- 0
  refine ev_loop (fun x : Int => ({ env := [(1, .ptr 1 0), (5, .fv false (.int .i64 x))], blk := [(1, .box [.fv false (.int .i64 q), .fv ro (.sl c 1 (ints l))])] } : St)) (fun x => (100000 - x).toNat) (fun x => 0 ≤ x ∧ x ≤ 100000 ∧ ∃ f : Nat, x + f = 100000 ∧ lin q l f x = lvlR q l) 0 rfl (by simp; exact ⟨100000, by omega, rfl⟩) (by simp [R]) (fun lo hi => ?_)
  obtain ⟨h0, h1, f, h3, h4⟩ := hi
  have hw : IntKind.i64.wrap (lo + 1) = lo + 1 := wrap_id (by omega) (by omega)
  by_cases hc : lo < 100000 ∧ sumI (atI l (lo + 1)) ≤ q
  · obtain ⟨hc1, hc2⟩ := hc
    obtain ⟨f, rfl⟩ : ∃ g, f = g + 1 := ⟨f - 1, by omega⟩
    rw [lin, if_pos (show sumAt l (lo + 1) ≤ q from hc2)] at h4
    refine ev_seq (ev_seq (ev_drw rfl (by kernel_rfl) (by kernel_rfl) (by simp [hc1, hc2, hw, e49, e48]; rfl) ?_))  -- region 5
    refine ev_cond rfl (fun hb => ?_) (fun hb => by simp at hb)  -- 25
    refine ev_skip ?_
    refine ev_block ?_  -- 1
    refine ev_reg (by simp [hw]; rfl) ?_  -- region 6
    exact ⟨lo + 1, rfl, ⟨by omega, by omega, f, by omega, h4⟩, by omega⟩
  · have hlo : lo = lvlR q l := by
      rw [← h4]
      cases f with
      | zero => rfl
      | succ f => rw [lin, if_neg (show ¬ sumAt l (lo + 1) ≤ q from fun h => hc ⟨by omega, h⟩)]
    rw [← hlo]
    have hcs : ¬ lo < 100000 ∨ (lo < 100000 ∧ ¬ sumI (atI l (lo + 1)) ≤ q) := by
      by_cases h : lo < 100000
      · exact .inr ⟨h, fun h2 => hc ⟨h, h2⟩⟩
      · exact .inl h
    clear hlo h4 h3 hc
    rcases hcs with hc1 | ⟨hc1, hc2⟩
    refine ev_seq (ev_seq (ev_drw rfl (by kernel_rfl) (by kernel_rfl) (by simp [hc1, unsetS]; rfl) ?_))  -- region 5
    rotate_left
    refine ev_seq (ev_seq (ev_drw rfl (by kernel_rfl) (by kernel_rfl) (by simp [hc1, hc2, hw, e49, e48]; rfl) ?_))  -- region 5
    all_goals
      refine ev_cond rfl (fun hb => by simp at hb) (fun hb => ?_)  -- 25
      refine ev_exit ?_
      refine ev_seq (ev_reg (by simp [e49, hlen]; rfl) ?_)  -- region 7
      refine ev_seq (ev_drw rfl (by kernel_rfl) (by kernel_rfl) (by simp [e48, hlen, htk]; rfl) ?_)  -- region 8
      refine ev_seq (ev_seq (ev_reg (by simp; rfl) ?_))  -- region 9
      refine ev_block ?_  -- 2
      have hst : ∀ i, i ≤ l.length → (spread lo (IntKind.i64.wrap (q - sumAt l lo)) (l.take i)).1.length = i := fun i hi => spread_length hi
      have hok' := wrap_lt (q - sumAt l lo)
      refine ev_loop (fun i : Nat => ({ env := [(1, .ptr 1 0), (5, .fv false (.int .i64 lo)), (6, .own 6 0 l.length), (7, .fv false (.int .i64 (spread lo (IntKind.i64.wrap (q - sumAt l lo)) (l.take i)).2)), (8, .fv false (.int .i64 i))], blk := [(1, .box [.fv false (.int .i64 q), .fv ro (.sl c 1 (ints l))]), (6, .arr 1 (ints ((spread lo (IntKind.i64.wrap (q - sumAt l lo)) (l.take i)).1 ++ atI (l.drop i) lo)))] } : St)) (fun i => l.length - i) (fun i => i ≤ l.length) 0 (by simp [spread, sumAt]) (by simp) (by simp [R]; omega) (fun i hi => ?_)
      have hsp : ∀ h : i < l.length, spread lo (IntKind.i64.wrap (q - sumAt l lo)) (l.take (i + 1)) = spreadStep lo (spread lo (IntKind.i64.wrap (q - sumAt l lo)) (l.take i)) l[i] := fun h => spread_take h
      have hspl := hst i hi
      have hrange := spread_le (n := lo) (left := IntKind.i64.wrap (q - sumAt l lo)) hi
      generalize hs1 : spread lo (IntKind.i64.wrap (q - sumAt l lo)) (l.take i) = sp at hsp hspl hrange
      clear hst
      generalize hL : IntKind.i64.wrap (q - sumAt l lo) = left0 at hsp hrange hok'
      have hget : ∀ (hb : i < l.length) h, (sp.1 ++ atI (l.drop i) lo)[i]'h = minI l[i] lo := fun hb h => by
        rw [List.getElem_append_right (by omega)]
        simp [atI, hspl]
      have hset : ∀ (hb : i < l.length) v, (sp.1 ++ atI (l.drop i) lo).set i v = sp.1 ++ v :: atI (l.drop (i + 1)) lo := fun hb v => by
        rw [List.set_append_right _ _ (by omega), hspl, Nat.sub_self, List.drop_eq_getElem_cons hb]
        rfl
      have hlt : (sp.1 ++ atI (l.drop i) lo).length = l.length := by simp [atI, hspl]; omega
      have hkeep : ∀ (hb : i < l.length), sp.1 ++ atI (l.drop i) lo = sp.1 ++ minI l[i] lo :: atI (l.drop (i + 1)) lo := fun hb => by
        rw [List.drop_eq_getElem_cons hb]; rfl
      have hend : i = l.length → sp.1 ++ atI (l.drop i) lo = sp.1 := fun e => by rw [e]; simp [atI]
      generalize hout : sp.1 ++ atI (l.drop i) lo = out at hget hset hlt hkeep hend
      refine ev_seq (ev_seq (ev_reg (by simp; rfl) ?_))  -- region 10
      refine ev_cond rfl (fun hb => ?_) (fun hb => ?_)  -- 39
      · simp at hb
        have hw1 : IntKind.i64.wrap ((i : Int) + 1) = (i + 1 : Nat) := wrap_nat (n := i + 1) (by omega)
        refine ev_skip ?_
        refine ev_seq (ev_block ?_)  -- 3
        have skip : ¬ (0 < sp.2 ∧ lo < l[i]) → (⟨[(1, V.ptr 1 0), (5, .fv false (.int .i64 lo)), (6, .own 6 0 l.length), (7, .fv false (.int .i64 sp.2)), (8, .fv false (.int .i64 (i + 1 : Nat)))], [(1, Blk.box [.fv false (.int .i64 q), .fv ro (.sl c 1 (ints l))]), (6, .arr 1 (ints out))], []⟩ : St) = ⟨[(1, V.ptr 1 0), (5, .fv false (.int .i64 lo)), (6, .own 6 0 l.length), (7, .fv false (.int .i64 (spread lo left0 (l.take (i + 1))).2)), (8, .fv false (.int .i64 (i + 1 : Nat)))], [(1, Blk.box [.fv false (.int .i64 q), .fv ro (.sl c 1 (ints l))]), (6, .arr 1 (ints ((spread lo left0 (l.take (i + 1))).1 ++ atI (l.drop (i + 1)) lo)))], []⟩ := fun hn => by
          rw [hsp hb, spreadStep, if_neg hn, hkeep hb, List.append_assoc]; rfl
        by_cases hc : 0 < sp.2
        · by_cases hd : lo < l[i]
          · refine ev_seq (ev_reg (by simp [hc, hd, hb, hlt]; rfl) ?_)  -- region 12
            refine ev_cond rfl (fun hb2 => ?_) (fun hb2 => by simp at hb2)  -- 52
            refine ev_seq (ev_reg (by simp [hb, hlt, hget, hset]; rfl) ?_)  -- region 13
            have hw2 : IntKind.i64.wrap (sp.2 - 1) = sp.2 - 1 := wrap_id (by omega) (by omega)
            refine ev_reg (by simp [hw2]; rfl) ?_  -- region 14
            refine ev_reg (by simp [hw1]; rfl) ?_  -- region 11
            refine ⟨i + 1, ?_, by omega, by omega⟩
            have hm : minI l[i] lo = lo := by simp only [minI, if_pos hd]
            have hw3 : IntKind.i64.wrap (lo + 1) = lo + 1 := wrap_id (by omega) (by omega)
            rw [hsp hb, spreadStep, if_pos ⟨hc, hd⟩]
            simp [hm, hw3]
          · refine ev_seq (ev_reg (by simp [hc, hd, hb, hlt]; rfl) ?_)  -- region 12
            refine ev_cond rfl (fun hb2 => by simp at hb2) (fun hb2 => ?_)  -- 52
            refine ev_skip ?_
            refine ev_reg (by simp [hw1]; rfl) ?_  -- region 11
            exact ⟨i + 1, skip (fun h => hd h.2), by omega, by omega⟩
        · refine ev_seq (ev_reg (by simp [hc, hb, hlt, unsetS]; rfl) ?_)  -- region 12
          refine ev_cond rfl (fun hb2 => by simp at hb2) (fun hb2 => ?_)  -- 52
          refine ev_skip ?_
          refine ev_reg (by simp [hw1]; rfl) ?_  -- region 11
          exact ⟨i + 1, skip (fun h => hc h.1), by omega, by omega⟩
      · simp at hb
        have hie : i = l.length := by omega
        refine ev_exit ?_  -- 2
        refine ev_seq (ev_reg (by simp; rfl) ?_)  -- region 15
        refine ev_ret ?_
        subst hie
        rw [List.take_length, hL] at hs1
        simp [hspl, sharesOf, hL, hs1, hend rfl]
end Go.Proofs.Ytoafhoihigfllaa.E
