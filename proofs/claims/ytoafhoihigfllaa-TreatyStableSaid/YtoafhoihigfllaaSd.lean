/-
  The chapter of the treaty: who is taken, as the document counts, in plain terms; and its asking is one of those that can be. Conditions: none.
-/
import Derived.Test.YtoafhoihigfllaaRl
namespace Go.Proofs.Ytoafhoihigfllaa.E
open Go Go.RowKit
set_option linter.unusedVariables false
set_option linter.unusedSimpArgs false
def tknS (d : List Int) (c : Int) (p : Nat × Int) (x : Int) : Nat × Int := if d.getD x.toNat 0 = c then (p.1 + 1, x) else p
/-- how many a country takes, and whom it likes least -/
def tkn (d : List Int) (c : Int) (l : List Int) : Nat × Int := l.foldl (tknS d c) (0, -1)
theorem tkn_succ (d : List Int) (c : Int) {l : List Int} {j : Nat} (h : j < l.length) : tkn d c (l.take (j + 1)) = tknS d c (tkn d c (l.take j)) l[j] := by
  unfold tkn
  rw [List.take_add_one, List.getElem?_eq_getElem h, Option.toList_some, List.foldl_append]
  rfl
/-- the one whom a country likes least of those who sell to it -/
def leastN (t : Trade) (d : List Int) (c : Nat) : Int := if (sellN d c).length = 0 then -1 else worstN t c (sellN d c)
theorem tkn_le (d : List Int) (c : Int) : ∀ l : List Int, (tkn d c l).1 ≤ l.length := by
  intro l
  have : ∀ (l : List Int) (p : Nat × Int), (l.foldl (tknS d c) p).1 ≤ p.1 + l.length := by
    intro l
    induction l with
    | nil => intro p; simp
    | cons x l ih =>
      intro p
      have := ih (tknS d c p x)
      have h2 : (tknS d c p x).1 ≤ p.1 + 1 := by unfold tknS; split <;> simp
      simp only [List.foldl_cons, List.length_cons]; omega
  simpa [tkn] using this l (0, -1)
theorem rank_take {t : Trade} (hT : TradeOk t) {c : Nat} (hc : c < t.co.length) {j : Nat} {x : Nat} (h : (likesAt t c)[j]? = some (x : Int)) : rankN t c x = j ∧ x < t.cu.length := by
  have hL := hT.likes c hc
  have hx : (x : Int) ∈ likesAt t c := List.mem_of_getElem? h
  have hxn : x < t.cu.length := by have := hL.rng _ hx; omega
  obtain ⟨k, h1, h2⟩ := rank_at hT hc hxn
  have hjl := (List.getElem?_eq_some_iff.mp h).1
  have : j = k := (List.getElem?_inj hjl hL.nd).mp (h.trans h1.symm)
  exact ⟨by rw [h2, this], hxn⟩
theorem tkn_eq {t : Trade} (hT : TradeOk t) {d : List Int} (hd : d.length = t.cu.length) {c : Nat} (hc : c < t.co.length) : tkn d c (likesAt t c) = ((sellN d c).length, leastN t d c) := by
  have hL := hT.likes c hc
  have key : ∀ j, j ≤ t.cu.length → (tkn d c ((likesAt t c).take j)).1 = ((sellN d c).filter fun k => decide (rankN t c k < j)).length ∧ ((tkn d c ((likesAt t c).take j)).2 = -1 ∧ (∀ k ∈ sellN d c, ¬ rankN t c k < j) ∨ ∃ w : Nat, (tkn d c ((likesAt t c).take j)).2 = w ∧ w ∈ sellN d c ∧ rankN t c w < j ∧ ∀ k ∈ sellN d c, rankN t c k < j → rankN t c k ≤ rankN t c w) := by
    intro j
    induction j with
    | zero =>
      intro _
      have h0 : ∀ k ∈ sellN d c, ¬ rankN t c k < (0 : Nat) := fun k hk => by
        have hkn := sell_lt hk
        obtain ⟨i, _, h2⟩ := rank_at hT hc (show k < t.cu.length by omega)
        omega
      refine ⟨?_, .inl ⟨rfl, h0⟩⟩
      have : ((sellN d c).filter fun k => decide (rankN t c k < (0 : Nat))) = [] := by
        rw [List.eq_nil_iff_forall_not_mem]
        intro k hk
        rw [List.mem_filter, decide_eq_true_eq] at hk
        exact h0 k hk.1 hk.2
      rw [this]; rfl
    | succ j ih =>
      intro hj
      have hjl : j < (likesAt t c).length := by rw [hL.len]; omega
      obtain ⟨ih1, ih2⟩ := ih (by omega)
      rw [tkn_succ d c hjl]
      obtain ⟨x, hx⟩ : ∃ x : Nat, (likesAt t c)[j] = (x : Int) := ⟨((likesAt t c)[j]).toNat, by have := hL.rng _ (List.getElem_mem hjl); omega⟩
      have hx2 : (likesAt t c)[j]? = some (x : Int) := by rw [List.getElem?_eq_getElem hjl, hx]
      obtain ⟨hr, hxn⟩ := rank_take hT hc hx2
      have huniq : ∀ k ∈ sellN d c, rankN t c k = j → k = x := fun k hk he => rank_inj hT hc (by have := sell_lt hk; omega) hxn (by rw [he, hr])
      have hcast : ((j + 1 : Nat) : Int) = (j : Int) + 1 := by omega
      rw [hx, tknS, Int.toNat_natCast]
      by_cases hs : d.getD x 0 = c
      · rw [if_pos hs]
        have hxm : x ∈ sellN d c := mem_sell.mpr ⟨by omega, hs⟩
        refine ⟨?_, .inr ⟨x, rfl, hxm, by omega, fun k hk hlt => by omega⟩⟩
        rw [ih1]
        have h1 : ((sellN d c).filter fun k => decide (rankN t c k < ((j + 1 : Nat) : Int))).length = ((sellN d c).filter fun k => decide (rankN t c k < (j : Int))).length + ((sellN d c).filter fun k => decide (k = x)).length := by
          have filter_split : ∀ {α : Type} (p q r : α → Bool) (l : List α), (∀ x ∈ l, r x = (p x || q x) ∧ (p x && q x) = false) → (l.filter r).length = (l.filter p).length + (l.filter q).length := by
            intro α p q r l
            induction l with
            | nil => intro _; rfl
            | cons x l ih =>
              intro h
              have ih := ih (fun y hy => h y (List.mem_cons_of_mem _ hy))
              obtain ⟨h1, h2⟩ := h x List.mem_cons_self
              cases hp : p x <;> cases hq : q x <;> rw [hp, hq] at h1 h2 <;> simp [h1, hp, hq, ih] at h2 ⊢ <;> omega
          refine filter_split _ _ _ _ fun k hk => ⟨?_, ?_⟩
          · rw [Bool.eq_iff_iff]
            simp only [Bool.or_eq_true, decide_eq_true_eq]
            constructor
            · intro h
              by_cases e : rankN t c k = j
              · exact .inr (huniq k hk e)
              · exact .inl (by omega)
            · rintro (h | rfl)
              · omega
              · omega
          · rw [Bool.eq_false_iff]
            simp only [ne_eq, Bool.and_eq_true, decide_eq_true_eq]
            rintro ⟨h, rfl⟩
            omega
        have h2 : ((sellN d c).filter fun k => decide (k = x)).length = 1 := by
          have hnd := sell_nodup d c
          have : ∀ l : List Nat, l.Nodup → x ∈ l → (l.filter fun k => decide (k = x)).length = 1 := by
            intro l hl hm
            have h3 := (List.filter_sublist (p := fun k => decide (k = x)) (l := l))
            have h4 := hl.sublist h3
            have h5 : ∀ k ∈ l.filter (fun k => decide (k = x)), k ∈ [x] := fun k hk => by
              rw [List.mem_filter, decide_eq_true_eq] at hk
              simp [hk.2]
            have h6 := nodup_subN h4 h5
            have h7 : x ∈ l.filter fun k => decide (k = x) := List.mem_filter.mpr ⟨hm, by simp⟩
            have h8 := List.length_pos_of_mem h7
            simp only [List.length_cons, List.length_nil] at h6
            omega
          exact this _ hnd hxm
        rw [h1, h2]
      · rw [if_neg hs]
        have hne : ∀ k ∈ sellN d c, rankN t c k ≠ j := fun k hk he => by
          have := huniq k hk he
          subst this
          exact hs (mem_sell.mp hk).2
        refine ⟨?_, ?_⟩
        · rw [ih1]
          congr 1
          apply List.filter_congr
          intro k hk
          have := hne k hk
          rw [Bool.eq_iff_iff]
          simp only [decide_eq_true_eq]
          omega
        · rcases ih2 with ⟨h1, h2⟩ | ⟨w, h1, h2, h3, h4⟩
          · exact .inl ⟨h1, fun k hk hlt => h2 k hk (by have := hne k hk; omega)⟩
          · exact .inr ⟨w, h1, h2, by omega, fun k hk hlt => h4 k hk (by have := hne k hk; omega)⟩
  obtain ⟨h1, h2⟩ := key t.cu.length (Nat.le_refl _)
  rw [List.take_of_length_le (by rw [hL.len]; exact Nat.le_refl _)] at h1 h2
  have hall : ∀ k ∈ sellN d c, rankN t c k < t.cu.length := fun k hk => by
    obtain ⟨j, h1, h2⟩ := rank_at hT hc (show k < t.cu.length by have := sell_lt hk; omega)
    have := (List.getElem?_eq_some_iff.mp h1).1
    rw [hL.len] at this
    omega
  rw [List.filter_eq_self.mpr (fun k hk => by rw [decide_eq_true_eq]; exact hall k hk)] at h1
  refine Prod.ext h1 ?_
  simp only [leastN]
  rcases h2 with ⟨h3, h4⟩ | ⟨w, h3, h4, h5, h6⟩
  · rw [if_pos, h3]
    refine Nat.eq_zero_of_not_pos fun hp => ?_
    have := worst_mem (t := t) (c := c) hp
    exact h4 _ this (hall _ this)
  · have hp := List.length_pos_of_mem h4
    rw [if_neg (by omega), h3]
    have hm := worst_mem (t := t) (c := c) hp
    have a1 := worst_max (t := t) (c := c) w h4
    have a2 := h6 _ hm (hall _ hm)
    have := rank_inj hT hc (show w < t.cu.length by have := sell_lt h4; omega) (show worstN t c (sellN d c) < t.cu.length by have := sell_lt hm; omega) (by omega)
    rw [← this]
/-- the deals behind a curer's asking, as the document has it -/
def docD (t : Trade) (d : List Int) (i c : Nat) : List Int :=
  if roomAt t c < ((sellN (d.set i c) c).length : Int) then (d.set i c).set (leastN t (d.set i c) c).toNat (-1) else d.set i c
theorem sell_set {t : Trade} {d : List Int} {i c : Nat} (hi : i < d.length) (hd : d.getD i 0 < 0) : (∀ k, k ∈ sellN (d.set i (c : Int)) c ↔ k = i ∨ k ∈ sellN d c) ∧ (sellN (d.set i (c : Int)) c).length = (sellN d c).length + 1 := by
  have hg : ∀ j, (d.set i (c : Int)).getD j 0 = if i = j then (c : Int) else d.getD j 0 := fun j => getD_set hi
  have hlen : (d.set i (c : Int)).length = d.length := List.length_set
  have hnot : i ∉ sellN d c := fun hm => by have := (mem_sell.mp hm).2; omega
  have hmem : ∀ k, k ∈ sellN (d.set i (c : Int)) c ↔ k = i ∨ k ∈ sellN d c := fun k => by
    rw [mem_sell, mem_sell, hlen, hg]
    split
    · rename_i e; subst e; simp [hi]
    · rename_i e; simp [Ne.symm e]
  refine ⟨hmem, ?_⟩
  rw [sell_perm (l := i :: sellN d c) (List.nodup_cons.mpr ⟨hnot, sell_nodup d c⟩)]
  · rfl
  · intro k
    rw [← mem_sell, hmem, List.mem_cons]
theorem worst_eq {t : Trade} (hT : TradeOk t) {c : Nat} (hc : c < t.co.length) {l : List Nat} (hl : ∀ k ∈ l, k < t.cu.length) {w : Nat} (hw : w ∈ l) (hm : ∀ k ∈ l, rankN t c k ≤ rankN t c w) : worstN t c l = w := by
  have hp := List.length_pos_of_mem hw
  have h1 := worst_mem (t := t) (c := c) hp
  have h2 := worst_max (t := t) (c := c) w hw
  exact rank_inj hT hc (hl _ h1) (hl _ hw) (by have := hm _ h1; omega)
theorem set_back {d : List Int} {i : Nat} {x : Int} (hi : i < d.length) (h : d.getD i 0 = x) (y : Int) : (d.set i y).set i x = d := by
  apply List.ext_getElem
  · simp
  · intro j h1 h2
    rw [List.getElem_set, List.getElem_set]
    split
    · rename_i e; subst e
      rw [← h]; simp [List.getD_eq_getElem?_getD, List.getElem?_eq_getElem h2]
    · rfl
theorem set_comm2 {d : List Int} {i j : Nat} {x y : Int} (h : i ≠ j) : (d.set i x).set j y = (d.set j y).set i x := List.set_comm x y h
theorem docD_eq {t : Trade} (hT : TradeOk t) {a : List (Nat × Nat)} {d : List Int} (h : Inv t a d) {i c : Nat} (hi : i < t.cu.length) (hc : c < t.co.length) (hd : d.getD i 0 < 0) : docD t d i c = if takesB t d i c then newD t d i c else d := by
  have hil : i < d.length := by rw [h.len]; exact hi
  obtain ⟨hmem, hone⟩ := sell_set (t := t) (c := c) hil hd
  have hf := h.few c hc
  have hlt : ∀ k ∈ sellN (d.set i (c : Int)) c, k < t.cu.length := fun k hk => by have := sell_lt hk; rw [List.length_set, h.len] at this; exact this
  have hnot : i ∉ sellN d c := fun hm => by have := (mem_sell.mp hm).2; omega
  have hm1 : d.getD i 0 = -1 := by
    rcases h.own i hi with h1 | ⟨x, h1, _⟩
    · exact h1
    · omega
  unfold docD newD
  rw [hone]
  by_cases hr : ((sellN d c).length : Int) = roomAt t c
  · rw [if_pos (by omega), leastN, hone, if_neg (by omega), Int.toNat_natCast, if_pos hr]
    cases ht : takesB t d i c with
    | false =>
      obtain ⟨_, h2⟩ := (takes_not hf).mp ht
      rw [worst_eq hT hc hlt (w := i) ((hmem i).mpr (.inl rfl)) (fun k hk => by
        rcases (hmem k).mp hk with rfl | h3
        · exact Int.le_refl _
        · exact h2 k h3)]
      rw [set_back hil hm1]
      simp
    | true =>
      unfold takesB at ht
      simp only [Bool.or_eq_true, Bool.and_eq_true, decide_eq_true_eq] at ht
      obtain ⟨h1, h2⟩ := ht.resolve_left (by omega)
      have hp : 0 < (sellN d c).length := by omega
      have hw := worst_mem (t := t) (c := c) hp
      rw [worst_eq hT hc hlt (w := worstN t c (sellN d c)) ((hmem _).mpr (.inr hw)) (fun k hk => by
        rcases (hmem k).mp hk with rfl | h3
        · omega
        · exact worst_max k h3)]
      rw [if_pos rfl]
      exact set_comm2 (fun e => hnot (e ▸ hw))
  · rw [if_neg (by omega), if_neg hr]
    have : takesB t d i c = true := by
      unfold takesB
      simp only [Bool.or_eq_true, decide_eq_true_eq]
      exact .inl (by omega)
    rw [this, if_pos rfl]
/-- how far each has asked -/
def AskTo (t : Trade) (a : List (Nat × Nat)) (q : List Nat) : Prop := ∀ i, i < t.cu.length → ∀ k c : Nat, (listAt t i)[k]? = some (c : Int) → ((i, c) ∈ a ↔ k < q.getD i 0)
theorem askTo_init (t : Trade) : AskTo t [] (List.replicate t.cu.length 0) := by
  intro i hi k c hk
  rw [List.getD_eq_getElem?_getD, List.getElem?_replicate, if_pos hi]
  simp
theorem askTo_step {t : Trade} (hT : TradeOk t) {a : List (Nat × Nat)} {q : List Nat} (h : AskTo t a q) (hq : q.length = t.cu.length) {i : Nat} (hi : i < t.cu.length) {c : Nat} (hk : (listAt t i)[q.getD i 0]? = some (c : Int)) : AskTo t (a ++ [(i, c)]) (q.set i (q.getD i 0 + 1)) := by
  intro j hj k e he
  have hg : (q.set i (q.getD i 0 + 1)).getD j 0 = if i = j then q.getD i 0 + 1 else q.getD j 0 := by
    rw [List.getD_eq_getElem?_getD, List.getElem?_set]
    split
    · rename_i e; subst e; rw [if_pos (by omega)]; rfl
    · rw [List.getD_eq_getElem?_getD]
  rw [hg, List.mem_append, List.mem_singleton, Prod.mk.injEq, h j hj k e he]
  by_cases e1 : i = j
  · subst e1
    rw [if_pos rfl]
    constructor
    · rintro (h1 | ⟨_, h1⟩)
      · omega
      · subst h1
        have hn := (hT.cu i hi).1
        have := (List.getElem?_inj (List.getElem?_eq_some_iff.mp he).1 hn).mp (he.trans hk.symm)
        omega
    · intro h1
      by_cases h2 : k < q.getD i 0
      · exact .inl h2
      · have : k = q.getD i 0 := by omega
        subst this
        have := he.symm.trans hk
        simp only [Option.some.injEq] at this
        exact .inr ⟨rfl, by omega⟩
  · rw [if_neg e1]
    constructor
    · rintro (h1 | ⟨h1, _⟩)
      · exact h1
      · exact absurd h1.symm e1
    · exact .inl
/-- a step of the document's asking -/
theorem doc_step {t : Trade} (hT : TradeOk t) {a : List (Nat × Nat)} {d : List Int} (hr : ReachT t a d) {q : List Nat} (h : AskTo t a q) (hq : q.length = t.cu.length) {i : Nat} (hi : i < t.cu.length) (hd : d.getD i 0 < 0) {c : Nat} (hk : (listAt t i)[q.getD i 0]? = some (c : Int)) : ReachT t (a ++ [(i, c)]) (docD t d i c) ∧ AskTo t (a ++ [(i, c)]) (q.set i (q.getD i 0 + 1)) ∧ c < t.co.length := by
  have hc := own_lt hT hi (List.mem_of_getElem? hk)
  refine ⟨?_, askTo_step hT h hq hi hk, hc⟩
  rw [docD_eq hT (reach_inv hT hr) hi hc hd]
  have hn : (i, c) ∉ a := fun hm => by have := (h i hi _ c hk).mp hm; omega
  have hpre : ∀ j, j < q.getD i 0 → ∀ x : Nat, (listAt t i)[j]? = some (x : Int) → (i, x) ∈ a := fun j hj x hx => (h i hi j x hx).mpr hj
  cases ht : takesB t d i c with
  | true => rw [if_pos rfl]; exact hr.yes i _ c hi hd hk hpre hn ht
  | false => simp only [Bool.false_eq_true, if_false]; exact hr.no i _ c hi hd hk hpre hn ht
theorem doc_done {t : Trade} {a : List (Nat × Nat)} {d : List Int} {q : List Nat} (h : AskTo t a q) (hall : ∀ i, i < t.cu.length → d.getD i 0 < 0 → q.getD i 0 = (listAt t i).length) : DoneT t a d := by
  intro i hi hd k x hk
  refine (h i hi k x hk).mpr ?_
  rw [hall i hi hd]
  exact (List.getElem?_eq_some_iff.mp hk).1
end Go.Proofs.Ytoafhoihigfllaa.E
