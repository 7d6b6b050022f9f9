/-
  The chapter of the treaty: deals in plain terms: they are stable, and best for curers. Conditions: none.
-/
import Derived.Test.YtoafhoihigfllaaRj
namespace Go.Proofs.Ytoafhoihigfllaa.E
open Go Go.RowKit
set_option linter.unusedVariables false
set_option linter.unusedSimpArgs false
theorem idx_at {l : List Int} {x : Int} (h : x ∈ l) : ∃ k : Nat, l[k]? = some x ∧ idx (· == x) l = k := by
  obtain ⟨k, hk⟩ : ∃ k, l.findIdx? (· == x) = some k := by
    rw [← Option.isSome_iff_exists, List.findIdx?_isSome, List.any_eq_true]
    exact ⟨x, h, by simp⟩
  refine ⟨k, ?_, by simp [idx, hk]⟩
  rw [List.findIdx?_eq_some_iff_getElem] at hk
  obtain ⟨h1, h2, _⟩ := hk
  rw [List.getElem?_eq_getElem h1]
  simpa using h2
theorem idx_no {l : List Int} {x : Int} (h : x ∉ l) : idx (· == x) l = -1 := by
  have : l.findIdx? (· == x) = none := by
    rw [List.findIdx?_eq_none_iff]
    intro y hy
    have : y ≠ x := fun e => h (e ▸ hy)
    simpa using this
  simp [idx, this]
theorem place_mem {t : Trade} {i : Nat} {x : Int} (h : x ∈ listAt t i) : ∃ k : Nat, (listAt t i)[k]? = some x ∧ placeT t i x = k := by
  obtain ⟨k, h1, h2⟩ := idx_at h
  refine ⟨k, h1, ?_⟩
  rw [placeT, h2, if_pos (by omega)]
theorem place_not {t : Trade} {i : Nat} {x : Int} (h : x ∉ listAt t i) : placeT t i x = (listAt t i).length := by
  rw [placeT, idx_no h, if_neg (by omega)]
theorem place_le (t : Trade) (i : Nat) (x : Int) : 0 ≤ placeT t i x ∧ placeT t i x ≤ (listAt t i).length := by
  by_cases h : x ∈ listAt t i
  · obtain ⟨k, h1, h2⟩ := place_mem h
    have := (List.getElem?_eq_some_iff.mp h1).1
    rw [h2]; omega
  · rw [place_not h]; omega
theorem place_lt {t : Trade} {i : Nat} {x : Int} : placeT t i x < (listAt t i).length ↔ x ∈ listAt t i := by
  constructor
  · intro h
    by_cases h2 : x ∈ listAt t i
    · exact h2
    · rw [place_not h2] at h; omega
  · intro h
    obtain ⟨k, h1, h2⟩ := place_mem h
    have := (List.getElem?_eq_some_iff.mp h1).1
    rw [h2]; omega
theorem place_inj {t : Trade} {i : Nat} {x y : Int} (hx : x = -1 ∨ x ∈ listAt t i) (hy : y = -1 ∨ y ∈ listAt t i) (e : placeT t i x = placeT t i y) : x = y := by
  by_cases h : x ∈ listAt t i
  · have h2 : y ∈ listAt t i := place_lt.mp (e ▸ place_lt.mpr h)
    obtain ⟨k, a1, a2⟩ := place_mem h
    obtain ⟨j, b1, b2⟩ := place_mem h2
    have : k = j := by omega
    subst this
    exact Option.some.inj (a1.symm.trans b1)
  · have h2 : y ∉ listAt t i := fun h2 => h (place_lt.mp (e.symm ▸ place_lt.mpr h2))
    rw [hx.resolve_right h, hy.resolve_right h2]
theorem rank_at {t : Trade} (hT : TradeOk t) {c k : Nat} (hc : c < t.co.length) (hk : k < t.cu.length) : ∃ j : Nat, (likesAt t c)[j]? = some (k : Int) ∧ rankN t c k = j := idx_at (Wish.mem (hT.likes c hc) hk)
theorem rank_inj {t : Trade} (hT : TradeOk t) {c k j : Nat} (hc : c < t.co.length) (hk : k < t.cu.length) (hj : j < t.cu.length) (e : rankN t c k = rankN t c j) : k = j := by
  obtain ⟨x, a1, a2⟩ := rank_at hT hc hk
  obtain ⟨y, b1, b2⟩ := rank_at hT hc hj
  have : x = y := by omega
  subst this
  have := Option.some.inj (a1.symm.trans b1)
  omega
theorem mem_sell {d : List Int} {c : Int} {k : Nat} : k ∈ sellN d c ↔ k < d.length ∧ d.getD k 0 = c := by
  simp [sellN, selB]
theorem sell_nodup (d : List Int) (c : Int) : (sellN d c).Nodup := List.Pairwise.filter _ List.nodup_range
theorem sell_perm {d : List Int} {c : Int} {l : List Nat} (hl : l.Nodup) (h : ∀ k, (k < d.length ∧ d.getD k 0 = c) ↔ k ∈ l) : (sellN d c).length = l.length :=
  ((List.perm_ext_iff_of_nodup (sell_nodup d c) hl).mpr fun k => by rw [mem_sell]; exact h k).length_eq
theorem getD_set {d : List Int} {i j : Nat} {x : Int} (hi : i < d.length) : (d.set i x).getD j 0 = if i = j then x else d.getD j 0 := by
  rw [List.getD_eq_getElem?_getD, List.getElem?_set]
  split
  · rename_i e; subst e; simp [hi]
  · rw [List.getD_eq_getElem?_getD]
theorem worst_max {t : Trade} {c : Nat} {l : List Nat} : ∀ k ∈ l, rankN t c k ≤ rankN t c (worstN t c l) := by
  have key : ∀ (m : List Nat) (w : Nat), rankN t c w ≤ rankN t c (m.foldl (fun w k => if rankN t c w < rankN t c k then k else w) w) ∧ ∀ k ∈ m, rankN t c k ≤ rankN t c (m.foldl (fun w k => if rankN t c w < rankN t c k then k else w) w) := by
    intro m
    induction m with
    | nil => exact fun w => ⟨Int.le_refl _, fun k hk => by cases hk⟩
    | cons x m ih =>
      intro w
      simp only [List.foldl_cons]
      by_cases h : rankN t c w < rankN t c x
      · rw [if_pos h]
        obtain ⟨h1, h2⟩ := ih x
        refine ⟨by omega, fun k hk => ?_⟩
        rcases List.mem_cons.mp hk with rfl | hk
        · exact h1
        · exact h2 k hk
      · rw [if_neg h]
        obtain ⟨h1, h2⟩ := ih w
        refine ⟨h1, fun k hk => ?_⟩
        rcases List.mem_cons.mp hk with rfl | hk
        · omega
        · exact h2 k hk
  exact fun k hk => (key l _).2 k hk
/-- a country takes nobody: it is full, with those that it likes better -/
theorem takes_not {t : Trade} {d : List Int} {i c : Nat} (hf : ((sellN d c).length : Int) ≤ roomAt t c) : takesB t d i c = false ↔ ((sellN d c).length : Int) = roomAt t c ∧ ∀ k ∈ sellN d c, rankN t c k ≤ rankN t c i := by
  unfold takesB
  simp only [Bool.or_eq_false_iff, decide_eq_false_iff_not, Bool.and_eq_false_iff]
  constructor
  · rintro ⟨h1, h2⟩
    have he : ((sellN d c).length : Int) = roomAt t c := by omega
    refine ⟨he, fun k hk => ?_⟩
    have hp : 0 < (sellN d c).length := List.length_pos_of_mem hk
    have := worst_max (t := t) (c := c) k hk
    rcases h2 with h2 | h2 <;> omega
  · rintro ⟨h1, h2⟩
    refine ⟨by omega, ?_⟩
    by_cases hr : 0 < roomAt t c
    · have := h2 _ (worst_mem (t := t) (c := c) (l := sellN d c) (by omega))
      exact .inr (by omega)
    · exact .inl hr
/-- deals that are stable -/
structure StableT (t : Trade) (d : List Int) : Prop where
  len : d.length = t.cu.length
  own : ∀ i, i < t.cu.length → d.getD i 0 = -1 ∨ d.getD i 0 ∈ listAt t i
  few : ∀ c : Nat, c < t.co.length → ((sellN d c).length : Int) ≤ roomAt t c
  no : ∀ i c : Nat, i < t.cu.length → (c : Int) ∈ listAt t i → placeT t i c < placeT t i (d.getD i 0) → ((sellN d c).length : Int) = roomAt t c ∧ ∀ k ∈ sellN d c, rankN t c k ≤ rankN t c i
/-- deals in which nobody is passed over for one who is liked less -/
structure FairT (t : Trade) (d : List Int) : Prop where
  len : d.length = t.cu.length
  own : ∀ i, i < t.cu.length → d.getD i 0 = -1 ∨ d.getD i 0 ∈ listAt t i
  few : ∀ c : Nat, c < t.co.length → ((sellN d c).length : Int) ≤ roomAt t c
  no : ∀ i c : Nat, i < t.cu.length → (c : Int) ∈ listAt t i → placeT t i c < placeT t i (d.getD i 0) → ∀ k ∈ sellN d c, rankN t c k ≤ rankN t c i
theorem StableT.fair {t : Trade} {d : List Int} (h : StableT t d) : FairT t d := ⟨h.len, h.own, h.few, fun i c a b e => (h.no i c a b e).2⟩
/-- what holds in the course of asking -/
structure Inv (t : Trade) (a : List (Nat × Nat)) (d : List Int) : Prop where
  len : d.length = t.cu.length
  own : ∀ i, i < t.cu.length → d.getD i 0 = -1 ∨ ∃ c : Nat, d.getD i 0 = c ∧ (i, c) ∈ a
  few : ∀ c : Nat, c < t.co.length → ((sellN d c).length : Int) ≤ roomAt t c
  lst : ∀ i c, (i, c) ∈ a → i < t.cu.length ∧ (c : Int) ∈ listAt t i ∧ c < t.co.length
  pre : ∀ i c e : Nat, (i, c) ∈ a → (e : Int) ∈ listAt t i → placeT t i e < placeT t i c → (i, e) ∈ a
  ref : ∀ i c : Nat, (i, c) ∈ a → d.getD i 0 ≠ c → ((sellN d c).length : Int) = roomAt t c ∧ ∀ k ∈ sellN d c, rankN t c k < rankN t c i
  opt : ∀ s, FairT t s → ∀ i c : Nat, (i, c) ∈ a → d.getD i 0 ≠ c → s.getD i 0 ≠ c
theorem own_lt {t : Trade} (hT : TradeOk t) {i : Nat} (hi : i < t.cu.length) {c : Nat} (h : (c : Int) ∈ listAt t i) : c < t.co.length := by
  have := (hT.cu i hi).2 _ h; omega
theorem nodup_subN : ∀ {a b : List Nat}, a.Nodup → (∀ k ∈ a, k ∈ b) → a.length ≤ b.length
  | [], b, _, _ => Nat.zero_le _
  | x :: a, b, h, hs => by
    rw [List.nodup_cons] at h
    have hx := hs x List.mem_cons_self
    have ih := nodup_subN (a := a) (b := b.erase x) h.2 (fun k hk => (List.mem_erase_of_ne (fun e : k = x => h.1 (e ▸ hk))).mpr (hs k (List.mem_cons_of_mem _ hk)))
    rw [List.length_erase_of_mem hx] at ih
    have := List.length_pos_of_mem hx
    simp only [List.length_cons]; omega
/-- of two sets as large as a country's room one has somebody whom the other has not -/
theorem other_one {a b : List Nat} (ha : a.Nodup) (hb : b.Nodup) (hl : b.length ≤ a.length) {r : Nat} (hr : r ∈ b) (hn : r ∉ a) : ∃ k ∈ a, k ∉ b := by
  refine Classical.byContradiction fun h => ?_
  have hs : ∀ k ∈ a, k ∈ b.erase r := fun k hk => by
    have hkb : k ∈ b := Classical.byContradiction fun h2 => h ⟨k, hk, h2⟩
    exact (hb.mem_erase_iff).mpr ⟨fun e => hn (e ▸ hk), hkb⟩
  have h1 : a.length ≤ (b.erase r).length := nodup_subN ha hs
  rw [List.length_erase_of_mem hr] at h1
  have := List.length_pos_of_mem hr
  omega
/-- who is refused by a country that is full with better ones is refused in all stable deals -/
theorem refuse {t : Trade} (hT : TradeOk t) {a : List (Nat × Nat)} {d : List Int} (h : Inv t a d) {s : List Int} (hs : FairT t s) {c : Nat} (hc : c < t.co.length) {S : List Nat} (hS : S.Nodup) (hroom : (S.length : Int) = roomAt t c)
    (hmem : ∀ k ∈ S, k < t.cu.length ∧ (c : Int) ∈ listAt t k ∧ d.getD k 0 ∈ [(c : Int), -1] ∧ ∀ e : Nat, (e : Int) ∈ listAt t k → placeT t k e < placeT t k c → (k, e) ∈ a) {r : Nat} (hr : r < t.cu.length) (hrS : r ∉ S) (hrank : ∀ k ∈ S, rankN t c k < rankN t c r) : s.getD r 0 ≠ c := by
  intro e
  have hrs : r ∈ sellN s c := mem_sell.mpr ⟨by rw [hs.len]; exact hr, e⟩
  have hf := hs.few c hc
  obtain ⟨k, hk, hkn⟩ := other_one hS (sell_nodup s c) (by omega) hrs hrS
  obtain ⟨k1, k2, k3, k4⟩ := hmem k hk
  have hks : s.getD k 0 ≠ c := fun e2 => hkn (mem_sell.mpr ⟨by rw [hs.len]; exact k1, e2⟩)
  have hpl : placeT t k c < placeT t k (s.getD k 0) := by
    rcases Int.lt_trichotomy (placeT t k c) (placeT t k (s.getD k 0)) with h1 | h1 | h1
    · exact h1
    · exact absurd (place_inj (.inr k2) (hs.own k k1) h1).symm hks
    · exfalso
      have hm : s.getD k 0 ∈ listAt t k := by
        have := place_lt.mpr k2
        exact place_lt.mp (by omega)
      obtain ⟨x, hx⟩ : ∃ x : Nat, s.getD k 0 = (x : Int) := ⟨(s.getD k 0).toNat, by have := ((hT.cu k k1).2 _ hm).1; omega⟩
      rw [hx] at hm h1 hks
      refine h.opt s hs k x (k4 x hm h1) ?_ hx
      simp only [List.mem_cons, List.not_mem_nil, or_false] at k3
      rcases k3 with e3 | e3 <;> rw [e3]
      · exact fun e4 => hks e4.symm
      · omega
  have := hs.no k c k1 k2 hpl r hrs
  have := hrank k hk
  omega
theorem sell_lt {d : List Int} {c : Int} {k : Nat} (h : k ∈ sellN d c) : k < d.length := (mem_sell.mp h).1
/-- a refusal -/
theorem Inv.no {t : Trade} (hT : TradeOk t) {a : List (Nat × Nat)} {d : List Int} (h : Inv t a d) {i c : Nat} (hi : i < t.cu.length) (hd : d.getD i 0 < 0) (hc : (c : Int) ∈ listAt t i) (hpre : ∀ e : Nat, (e : Int) ∈ listAt t i → placeT t i e < placeT t i c → (i, e) ∈ a) (ht : takesB t d i c = false) : Inv t (a ++ [(i, c)]) d := by
  have hcm := own_lt hT hi hc
  obtain ⟨h1, h2⟩ := (takes_not (h.few c hcm)).mp ht
  have hnot : i ∉ sellN d c := fun hm => by have := (mem_sell.mp hm).2; omega
  have hlt : ∀ k ∈ sellN d c, rankN t c k < rankN t c i := fun k hk => by
    have hkn := sell_lt hk
    rw [h.len] at hkn
    have := h2 k hk
    rcases Int.lt_or_eq_of_le this with h3 | h3
    · exact h3
    · exact absurd (rank_inj hT hcm hkn hi h3 ▸ hk) hnot
  refine ⟨h.len, fun j hj => ?_, h.few, fun j e hm => ?_, fun j e f hm hf hp => ?_, fun j e hm hne => ?_, fun s hs j e hm hne => ?_⟩
  · rcases h.own j hj with h3 | ⟨e, h3, h4⟩
    · exact .inl h3
    · exact .inr ⟨e, h3, List.mem_append_left _ h4⟩
  · rcases List.mem_append.mp hm with h3 | h3
    · exact h.lst j e h3
    · simp only [List.mem_singleton, Prod.mk.injEq] at h3
      obtain ⟨rfl, rfl⟩ := h3
      exact ⟨hi, hc, hcm⟩
  · rcases List.mem_append.mp hm with h3 | h3
    · exact List.mem_append_left _ (h.pre j e f h3 hf hp)
    · simp only [List.mem_singleton, Prod.mk.injEq] at h3
      obtain ⟨rfl, rfl⟩ := h3
      exact List.mem_append_left _ (hpre f hf hp)
  · rcases List.mem_append.mp hm with h3 | h3
    · exact h.ref j e h3 hne
    · simp only [List.mem_singleton, Prod.mk.injEq] at h3
      obtain ⟨rfl, rfl⟩ := h3
      exact ⟨h1, hlt⟩
  · rcases List.mem_append.mp hm with h3 | h3
    · exact h.opt s hs j e h3 hne
    · simp only [List.mem_singleton, Prod.mk.injEq] at h3
      obtain ⟨rfl, rfl⟩ := h3
      refine refuse hT h hs hcm (sell_nodup d e) h1 (fun k hk => ?_) hi hnot hlt
      obtain ⟨k1, k2⟩ := mem_sell.mp hk
      rw [h.len] at k1
      rcases h.own k k1 with h5 | ⟨x, h5, h6⟩
      · omega
      · have : x = e := by omega
        subst this
        exact ⟨k1, (h.lst k x h6).2.1, by rw [k2]; exact List.mem_cons_self, fun f hf hp => h.pre k x f h6 hf hp⟩
/-- a curer is taken, where there is room -/
theorem Inv.room {t : Trade} (hT : TradeOk t) {a : List (Nat × Nat)} {d : List Int} (h : Inv t a d) {i c : Nat} (hi : i < t.cu.length) (hd : d.getD i 0 < 0) (hc : (c : Int) ∈ listAt t i) (hpre : ∀ e : Nat, (e : Int) ∈ listAt t i → placeT t i e < placeT t i c → (i, e) ∈ a) (hr : ((sellN d c).length : Int) < roomAt t c) : Inv t (a ++ [(i, c)]) (d.set i c) := by
  have hcm := own_lt hT hi hc
  have hil : i < d.length := by rw [h.len]; exact hi
  have hg : ∀ j, (d.set i (c : Int)).getD j 0 = if i = j then (c : Int) else d.getD j 0 := fun j => getD_set hil
  have hlen : (d.set i (c : Int)).length = d.length := List.length_set
  have hsame : ∀ e : Nat, e ≠ c → sellN (d.set i (c : Int)) e = sellN d e := fun e he => by
    unfold sellN
    rw [hlen]
    apply List.filter_congr
    intro k _
    simp only [selB, hg]
    split
    · rename_i e2; subst e2
      rw [Bool.eq_iff_iff]; simp only [beq_iff_eq]; constructor <;> intro e3 <;> omega
    · rfl
  have hnot : i ∉ sellN d c := fun hm => by have := (mem_sell.mp hm).2; omega
  have hone : (sellN (d.set i (c : Int)) c).length = (sellN d c).length + 1 := by
    rw [sell_perm (l := i :: sellN d c) (List.nodup_cons.mpr ⟨hnot, sell_nodup d c⟩)]
    · rfl
    · intro k
      rw [hlen, hg, List.mem_cons, mem_sell]
      split
      · rename_i e; subst e; simp [hil]
      · rename_i e; simp [Ne.symm e]
  refine ⟨by rw [hlen, h.len], fun j hj => ?_, fun e he => ?_, fun j e hm => ?_, fun j e f hm hf hp => ?_, fun j e hm hne => ?_, fun s hs j e hm hne => ?_⟩
  · rw [hg]
    split
    · rename_i e; subst e; exact .inr ⟨c, rfl, by simp⟩
    · rcases h.own j hj with h3 | ⟨e, h3, h4⟩
      · exact .inl h3
      · exact .inr ⟨e, h3, List.mem_append_left _ h4⟩
  · by_cases e2 : e = c
    · subst e2; rw [hone]; omega
    · rw [hsame e e2]; exact h.few e he
  · rcases List.mem_append.mp hm with h3 | h3
    · exact h.lst j e h3
    · simp only [List.mem_singleton, Prod.mk.injEq] at h3
      obtain ⟨rfl, rfl⟩ := h3
      exact ⟨hi, hc, hcm⟩
  · rcases List.mem_append.mp hm with h3 | h3
    · exact List.mem_append_left _ (h.pre j e f h3 hf hp)
    · simp only [List.mem_singleton, Prod.mk.injEq] at h3
      obtain ⟨rfl, rfl⟩ := h3
      exact List.mem_append_left _ (hpre f hf hp)
  · rw [hg] at hne
    rcases List.mem_append.mp hm with h3 | h3
    · have hold : d.getD j 0 ≠ e := fun e2 => by
        split at hne
        · rename_i e3; subst e3; omega
        · exact hne e2
      obtain ⟨h4, h5⟩ := h.ref j e h3 hold
      by_cases e2 : e = c
      · subst e2; omega
      · rw [hsame e e2]; exact ⟨h4, h5⟩
    · simp only [List.mem_singleton, Prod.mk.injEq] at h3
      obtain ⟨rfl, rfl⟩ := h3
      simp at hne
  · rw [hg] at hne
    rcases List.mem_append.mp hm with h3 | h3
    · refine h.opt s hs j e h3 (fun e2 => ?_)
      split at hne
      · rename_i e3; subst e3; omega
      · exact hne e2
    · simp only [List.mem_singleton, Prod.mk.injEq] at h3
      obtain ⟨rfl, rfl⟩ := h3
      simp at hne
/-- a curer is taken instead of another one -/
theorem Inv.swap {t : Trade} (hT : TradeOk t) {a : List (Nat × Nat)} {d : List Int} (h : Inv t a d) {i c w : Nat} (hi : i < t.cu.length) (hd : d.getD i 0 < 0) (hc : (c : Int) ∈ listAt t i) (hpre : ∀ e : Nat, (e : Int) ∈ listAt t i → placeT t i e < placeT t i c → (i, e) ∈ a) (hr : ((sellN d c).length : Int) = roomAt t c)
    (hw : w ∈ sellN d c) (hmax : ∀ k ∈ sellN d c, rankN t c k ≤ rankN t c w) (hbet : rankN t c i < rankN t c w) : Inv t (a ++ [(i, c)]) ((d.set w (-1)).set i c) := by
  have hcm := own_lt hT hi hc
  have hil : i < d.length := by rw [h.len]; exact hi
  have hwl := sell_lt hw
  have hwn : w < t.cu.length := by rw [← h.len]; exact hwl
  have hdw := (mem_sell.mp hw).2
  have hwi : w ≠ i := fun e => by subst e; omega
  have hg : ∀ j, ((d.set w (-1)).set i (c : Int)).getD j 0 = if i = j then (c : Int) else if w = j then -1 else d.getD j 0 := fun j => by
    rw [getD_set (by rw [List.length_set]; exact hil), getD_set hwl]
  have hlen : ((d.set w (-1)).set i (c : Int)).length = d.length := by rw [List.length_set, List.length_set]
  generalize ((d.set w (-1)).set i (c : Int)) = d' at *
  have hsame : ∀ e : Nat, e ≠ c → sellN d' e = sellN d e := fun e he => by
    unfold sellN
    rw [hlen]
    apply List.filter_congr
    intro k _
    simp only [selB, hg]
    split
    · rename_i e2; subst e2
      rw [Bool.eq_iff_iff]; simp only [beq_iff_eq]; constructor <;> intro e3 <;> omega
    · split
      · rename_i e2; subst e2
        rw [Bool.eq_iff_iff]; simp only [beq_iff_eq]; constructor <;> intro e3 <;> omega
      · rfl
  have hnot : i ∉ sellN d c := fun hm => by have := (mem_sell.mp hm).2; omega
  have hmem : ∀ k, k ∈ sellN d' c ↔ k = i ∨ (k ∈ sellN d c ∧ k ≠ w) := fun k => by
    rw [mem_sell, mem_sell, hlen, hg]
    split
    · rename_i e; subst e; simp [hil]
    · rename_i e
      split
      · rename_i e2; subst e2
        constructor
        · intro ⟨_, e3⟩; omega
        · rintro (e3 | ⟨_, e3⟩)
          · exact absurd e3 (Ne.symm e)
          · exact absurd rfl e3
      · rename_i e2
        constructor
        · exact fun h => .inr ⟨h, Ne.symm e2⟩
        · rintro (e3 | ⟨h, _⟩)
          · exact absurd e3 (Ne.symm e)
          · exact h
  have hone : (sellN d' c).length = (sellN d c).length := by
    rw [sell_perm (l := i :: (sellN d c).erase w) (List.nodup_cons.mpr ⟨fun hm => hnot (List.mem_of_mem_erase hm), (sell_nodup d c).erase _⟩)]
    · rw [List.length_cons, List.length_erase_of_mem hw]
      have := List.length_pos_of_mem hw
      omega
    · intro k
      rw [← mem_sell, hmem, List.mem_cons, (sell_nodup d c).mem_erase_iff]
      constructor
      · rintro (h | ⟨h1, h2⟩)
        · exact .inl h
        · exact .inr ⟨h2, h1⟩
      · rintro (h | ⟨h1, h2⟩)
        · exact .inl h
        · exact .inr ⟨h2, h1⟩
  have hltw : ∀ k ∈ sellN d' c, rankN t c k < rankN t c w := fun k hk => by
    rcases (hmem k).mp hk with rfl | ⟨h1, h2⟩
    · exact hbet
    · have hkn := sell_lt h1
      rw [h.len] at hkn
      rcases Int.lt_or_eq_of_le (hmax k h1) with h3 | h3
      · exact h3
      · exact absurd (rank_inj hT hcm hkn hwn h3) h2
  refine ⟨by rw [hlen, h.len], fun j hj => ?_, fun e he => ?_, fun j e hm => ?_, fun j e f hm hf hp => ?_, fun j e hm hne => ?_, fun s hs j e hm hne => ?_⟩
  · rw [hg]
    split
    · rename_i e; subst e; exact .inr ⟨c, rfl, by simp⟩
    · split
      · exact .inl rfl
      · rcases h.own j hj with h3 | ⟨e, h3, h4⟩
        · exact .inl h3
        · exact .inr ⟨e, h3, List.mem_append_left _ h4⟩
  · by_cases e2 : e = c
    · subst e2; rw [hone]; omega
    · rw [hsame e e2]; exact h.few e he
  · rcases List.mem_append.mp hm with h3 | h3
    · exact h.lst j e h3
    · simp only [List.mem_singleton, Prod.mk.injEq] at h3
      obtain ⟨rfl, rfl⟩ := h3
      exact ⟨hi, hc, hcm⟩
  · rcases List.mem_append.mp hm with h3 | h3
    · exact List.mem_append_left _ (h.pre j e f h3 hf hp)
    · simp only [List.mem_singleton, Prod.mk.injEq] at h3
      obtain ⟨rfl, rfl⟩ := h3
      exact List.mem_append_left _ (hpre f hf hp)
  · rw [hg] at hne
    rcases List.mem_append.mp hm with h3 | h3
    · by_cases hold : d.getD j 0 = e
      · -- the one who is sent away
        have hjw : j = w ∧ e = c := by
          split at hne
          · rename_i e3; subst e3; omega
          · split at hne
            · rename_i e3; subst e3; exact ⟨rfl, by omega⟩
            · exact absurd hold hne
        obtain ⟨rfl, rfl⟩ := hjw
        exact ⟨by rw [hone]; exact hr, hltw⟩
      · obtain ⟨h4, h5⟩ := h.ref j e h3 hold
        by_cases e2 : e = c
        · subst e2
          refine ⟨by rw [hone]; exact hr, fun k hk => ?_⟩
          have := hltw k hk
          have := h5 w hw
          omega
        · rw [hsame e e2]; exact ⟨h4, h5⟩
    · simp only [List.mem_singleton, Prod.mk.injEq] at h3
      obtain ⟨rfl, rfl⟩ := h3
      simp at hne
  · rw [hg] at hne
    rcases List.mem_append.mp hm with h3 | h3
    · by_cases hold : d.getD j 0 = e
      · have hjw : j = w ∧ e = c := by
          split at hne
          · rename_i e3; subst e3; omega
          · split at hne
            · rename_i e3; subst e3; exact ⟨rfl, by omega⟩
            · exact absurd hold hne
        obtain ⟨rfl, rfl⟩ := hjw
        refine refuse hT h hs hcm (sell_nodup d' e) (by rw [hone]; exact hr) (fun k hk => ?_) hwn (fun hm => ?_) hltw
        · rcases (hmem k).mp hk with rfl | ⟨h1, h2⟩
          · refine ⟨hi, hc, ?_, hpre⟩
            rcases h.own k hi with h5 | ⟨x, h5, _⟩
            · rw [h5]; simp
            · omega
          · obtain ⟨k1, k2⟩ := mem_sell.mp h1
            rw [h.len] at k1
            rcases h.own k k1 with h5 | ⟨x, h5, h6⟩
            · omega
            · have : x = e := by omega
              subst this
              exact ⟨k1, (h.lst k x h6).2.1, by rw [k2]; exact List.mem_cons_self, fun f hf hp => h.pre k x f h6 hf hp⟩
        · rcases (hmem j).mp hm with h1 | ⟨_, h1⟩
          · exact hwi h1
          · exact h1 rfl
      · exact h.opt s hs j e h3 hold
    · simp only [List.mem_singleton, Prod.mk.injEq] at h3
      obtain ⟨rfl, rfl⟩ := h3
      simp at hne
end Go.Proofs.Ytoafhoihigfllaa.E
namespace Go.Proofs.Ytoafhoihigfllaa.E
open Go Go.RowKit
set_option linter.unusedVariables false
set_option linter.unusedSimpArgs false
theorem place_at {t : Trade} (hT : TradeOk t) {i k : Nat} (hi : i < t.cu.length) {x : Int} (hk : (listAt t i)[k]? = some x) : placeT t i x = k := by
  obtain ⟨j, h1, h2⟩ := place_mem (t := t) (i := i) (x := x) (List.mem_of_getElem? hk)
  have hn := (hT.cu i hi).1
  have hkl := (List.getElem?_eq_some_iff.mp hk).1
  have hjl := (List.getElem?_eq_some_iff.mp h1).1
  have : j = k := (List.getElem?_inj hjl hn).mp (h1.trans hk.symm)
  rw [h2, this]
theorem list_nat {t : Trade} (hT : TradeOk t) {i : Nat} (hi : i < t.cu.length) {x : Int} (hx : x ∈ listAt t i) : ∃ c : Nat, x = c ∧ c < t.co.length :=
  ⟨x.toNat, by have := (hT.cu i hi).2 x hx; omega, by have := (hT.cu i hi).2 x hx; omega⟩
theorem pre_of {t : Trade} (hT : TradeOk t) {a : List (Nat × Nat)} {i k c : Nat} (hi : i < t.cu.length) (hk : (listAt t i)[k]? = some (c : Int)) (hpre : ∀ j, j < k → ∀ x : Nat, (listAt t i)[j]? = some (x : Int) → (i, x) ∈ a) : ∀ e : Nat, (e : Int) ∈ listAt t i → placeT t i e < placeT t i c → (i, e) ∈ a := by
  intro e he hp
  obtain ⟨j, h1, h2⟩ := place_mem he
  rw [place_at hT hi hk, h2] at hp
  exact hpre j (by omega) e h1
theorem inv_init {t : Trade} (hT : TradeOk t) : Inv t [] (List.replicate t.cu.length (-1)) := by
  have hg : ∀ i, i < t.cu.length → (List.replicate t.cu.length (-1 : Int)).getD i 0 = -1 := fun i hi => by
    rw [List.getD_eq_getElem?_getD, List.getElem?_replicate, if_pos hi]; rfl
  refine ⟨by simp, fun i hi => .inl (hg i hi), fun c hc => ?_, fun i c h => (by cases h), fun i c e h => (by cases h), fun i c h => (by cases h), fun s _ i c h => (by cases h)⟩
  have : sellN (List.replicate t.cu.length (-1)) c = [] := by
    rw [List.eq_nil_iff_forall_not_mem]
    intro k hk
    obtain ⟨h1, h2⟩ := mem_sell.mp hk
    rw [hg k (by simpa using h1)] at h2
    omega
  rw [this]
  exact (hT.room c hc).1
theorem reach_inv {t : Trade} (hT : TradeOk t) {a : List (Nat × Nat)} {d : List Int} (h : ReachT t a d) : Inv t a d := by
  induction h with
  | init => exact inv_init hT
  | no h i k c hi hd hk hpre hn ht ih => exact ih.no hT hi hd (List.mem_of_getElem? hk) (pre_of hT hi hk hpre) ht
  | @yes a d h i k c hi hd hk hpre hn ht ih =>
    have hc := List.mem_of_getElem? hk
    have hcm := own_lt hT hi hc
    have hp := pre_of hT hi hk hpre
    unfold newD
    unfold takesB at ht
    simp only [Bool.or_eq_true, Bool.and_eq_true, decide_eq_true_eq] at ht
    have hf := ih.few c hcm
    by_cases he : ((sellN d c).length : Int) = roomAt t c
    · rw [if_pos he]
      obtain ⟨h1, h2⟩ := ht.resolve_left (by omega)
      exact ih.swap hT hi hd hc hp he (worst_mem (by omega)) worst_max h2
    · rw [if_neg he]
      exact ih.room hT hi hd hc hp (by omega)
theorem inv_refused {t : Trade} (hT : TradeOk t) {a : List (Nat × Nat)} {d : List Int} (h : Inv t a d) (hd : DoneT t a d) {i c : Nat} (hi : i < t.cu.length) (hc : (c : Int) ∈ listAt t i) (hp : placeT t i c < placeT t i (d.getD i 0)) : (i, c) ∈ a ∧ d.getD i 0 ≠ c := by
  refine ⟨?_, fun e => by rw [e] at hp; omega⟩
  rcases h.own i hi with h1 | ⟨x, h1, h2⟩
  · obtain ⟨k, hk⟩ := List.mem_iff_getElem?.mp hc
    exact hd i hi (by omega) k c hk
  · rw [h1] at hp
    exact h.pre i x c h2 hc hp
theorem inv_stable {t : Trade} (hT : TradeOk t) {a : List (Nat × Nat)} {d : List Int} (h : Inv t a d) (hd : DoneT t a d) : StableT t d := by
  refine ⟨h.len, fun i hi => ?_, h.few, fun i c hi hc hp => ?_⟩
  · rcases h.own i hi with h1 | ⟨x, h1, h2⟩
    · exact .inl h1
    · rw [h1]; exact .inr (h.lst i x h2).2.1
  · obtain ⟨h1, h2⟩ := inv_refused hT h hd hi hc hp
    obtain ⟨h3, h4⟩ := h.ref i c h1 h2
    exact ⟨h3, fun k hk => Int.le_of_lt (h4 k hk)⟩
/-- stable deals, best for curers -/
structure BestT (t : Trade) (d : List Int) : Prop where
  st : StableT t d
  best : ∀ s, FairT t s → ∀ i, i < t.cu.length → placeT t i (d.getD i 0) ≤ placeT t i (s.getD i 0)
theorem inv_best {t : Trade} (hT : TradeOk t) {a : List (Nat × Nat)} {d : List Int} (h : Inv t a d) (hd : DoneT t a d) : BestT t d := by
  refine ⟨inv_stable hT h hd, fun s hs i hi => ?_⟩
  rcases Int.lt_or_le (placeT t i (s.getD i 0)) (placeT t i (d.getD i 0)) with hp | hp
  · exfalso
    have hm : s.getD i 0 ∈ listAt t i := by
      have := (place_le t i (d.getD i 0)).2
      exact place_lt.mp (by omega)
    obtain ⟨c, hc, -⟩ := list_nat hT hi hm
    rw [hc] at hm hp
    obtain ⟨h1, h2⟩ := inv_refused hT h hd hi hm hp
    exact h.opt s hs i c h1 h2 hc
  · exact hp
theorem stable_ext {t : Trade} {d s : List Int} (hd : StableT t d) (hs : StableT t s) (h : ∀ i, i < t.cu.length → placeT t i (d.getD i 0) = placeT t i (s.getD i 0)) : d = s := by
  apply List.ext_getElem
  · rw [hd.len, hs.len]
  · intro i h1 h2
    have hi : i < t.cu.length := by rw [← hd.len]; exact h1
    have := place_inj (hd.own i hi) (hs.own i hi) (h i hi)
    simpa [List.getD_eq_getElem?_getD, List.getElem?_eq_getElem h1, List.getElem?_eq_getElem h2] using this
theorem best_unique {t : Trade} {d s : List Int} (hd : BestT t d) (hs : BestT t s) : d = s :=
  stable_ext hd.st hs.st fun i hi => Int.le_antisymm (hd.best s hs.st.fair i hi) (hs.best d hd.st.fair i hi)
/-- the least number of which something holds -/
theorem least_nat {p : Nat → Prop} (h : ∃ n, p n) : ∃ n, p n ∧ ∀ m, m < n → ¬ p m := by
  obtain ⟨n, hn⟩ := h
  induction n using Nat.strongRecOn with
  | ind n ih =>
    by_cases h : ∃ m, m < n ∧ p m
    · obtain ⟨m, h1, h2⟩ := h
      exact ih m h1 h2
    · exact ⟨n, hn, fun m h1 h2 => h ⟨m, h1, h2⟩⟩
/-- the asking comes to an end -/
theorem done_exists {t : Trade} (hT : TradeOk t) : ∃ a d, ReachT t a d ∧ DoneT t a d := by
  have key : ∀ n a d, leftN t a = n → ReachT t a d → ∃ a d, ReachT t a d ∧ DoneT t a d := by
    intro n
    induction n using Nat.strongRecOn with
    | ind n ih =>
      intro a d hn hr
      by_cases hd : DoneT t a d
      · exact ⟨a, d, hr, hd⟩
      · obtain ⟨i, hi⟩ := Classical.not_forall.mp hd
        obtain ⟨hi, hi2⟩ := Classical.not_imp.mp hi
        obtain ⟨hneg, hall⟩ := Classical.not_imp.mp hi2
        have : ∃ k : Nat, ∃ x : Nat, (listAt t i)[k]? = some (x : Int) ∧ (i, x) ∉ a := by
          refine Classical.byContradiction fun h => hall fun k x hk => Classical.byContradiction fun h2 => h ⟨k, x, hk, h2⟩
        obtain ⟨k, ⟨c, hk, hc⟩, hless⟩ := least_nat this
        have hpre : ∀ j, j < k → ∀ x : Nat, (listAt t i)[j]? = some (x : Int) → (i, x) ∈ a := fun j hj x hx => Classical.byContradiction fun h => hless j hj ⟨x, hx, h⟩
        have hlt := left_lt (mem_pairsT hi hk) hc
        cases ht : takesB t d i c with
        | false => exact ih _ (by omega) _ _ rfl (hr.no i k c hi hneg hk hpre hc ht)
        | true => exact ih _ (by omega) _ _ rfl (hr.yes i k c hi hneg hk hpre hc ht)
  exact key _ _ _ rfl ReachT.init
open Classical in
/-- the deals of a trade -/
noncomputable def dealsOf (t : Trade) : List Int := if h : ∃ d, BestT t d then Classical.choose h else []
theorem dealsOf_best {t : Trade} (hT : TradeOk t) : BestT t (dealsOf t) := by
  obtain ⟨a, d, h1, h2⟩ := done_exists hT
  have h : ∃ d, BestT t d := ⟨d, inv_best hT (reach_inv hT h1) h2⟩
  unfold dealsOf
  rw [dif_pos h]
  exact Classical.choose_spec h
theorem dealsOf_eq {t : Trade} (hT : TradeOk t) {a : List (Nat × Nat)} {d : List Int} (h1 : ReachT t a d) (h2 : DoneT t a d) : d = dealsOf t :=
  best_unique (inv_best hT (reach_inv hT h1) h2) (dealsOf_best hT)
end Go.Proofs.Ytoafhoihigfllaa.E
