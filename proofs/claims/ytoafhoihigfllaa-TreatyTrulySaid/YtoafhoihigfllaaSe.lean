/-
  The chapter of the treaty: the deals that countries make, asking curers, in plain terms: they are stable. Conditions: none.
-/
import Derived.Test.YtoafhoihigfllaaSb
namespace Go.Proofs.Ytoafhoihigfllaa.E
open Go Go.RowKit
set_option linter.unusedVariables false
set_option linter.unusedSimpArgs false
/-- can a country ask -/
def mReady (t : Trade) (d : List Int) (q : List Nat) (k : Nat) : Bool := decide (((sellN d k).length : Int) < roomAt t k) && decide (q.getD k 0 < (likesAt t k).length)
def mWho (t : Trade) (q : List Nat) (k : Nat) : Nat := ((likesAt t k).getD (q.getD k 0) 0).toNat
def mNext (t : Trade) (s : List Int × List Nat) (k : Nat) : List Int × List Nat :=
  (if placeT t (mWho t s.2 k) k < placeT t (mWho t s.2 k) (s.1.getD (mWho t s.2 k) 0) then s.1.set (mWho t s.2 k) k else s.1, s.2.set k (s.2.getD k 0 + 1))
def mStep (t : Trade) (s : List Int × List Nat) : List Int × List Nat := match (List.range t.co.length).find? (mReady t s.1 s.2) with
  | some k => mNext t s k
  | none => s
def mIter (t : Trade) : Nat → List Int × List Nat
  | 0 => (List.replicate t.cu.length (-1), List.replicate t.co.length 0)
  | n + 1 => mStep t (mIter t n)
/-- the deals that countries make -/
def madeOf (t : Trade) : List Int := (mIter t 64).1
theorem find_first {p : Nat → Bool} {n k : Nat} (hk : k < n) (hp : p k = true) (hl : ∀ j, j < k → p j = false) : (List.range n).find? p = some k := by
  rw [List.find?_eq_some_iff_getElem]
  refine ⟨hp, k, by simpa using hk, by simp, fun j hj => ?_⟩
  simp [hl j hj]
theorem find_none' {p : Nat → Bool} {n : Nat} (hl : ∀ j, j < n → p j = false) : (List.range n).find? p = none := by
  rw [List.find?_eq_none]
  intro x hx
  simp [hl x (List.mem_range.mp hx)]
theorem mStep_first {t : Trade} {s : List Int × List Nat} {k : Nat} (hk : k < t.co.length) (hp : mReady t s.1 s.2 k = true) (hl : ∀ j, j < k → mReady t s.1 s.2 j = false) : mStep t s = mNext t s k := by
  rw [mStep, find_first hk hp hl]
theorem mStep_none {t : Trade} {s : List Int × List Nat} (hl : ∀ j, j < t.co.length → mReady t s.1 s.2 j = false) : mStep t s = s := by
  rw [mStep, find_none' hl]
theorem mIter_stop {t : Trade} {n : Nat} (h : ∀ j, j < t.co.length → mReady t (mIter t n).1 (mIter t n).2 j = false) : ∀ k, n ≤ k → mIter t k = mIter t n := by
  intro k hk
  induction k with
  | zero => rw [show n = 0 by omega]
  | succ k ih =>
    by_cases e : n = k + 1
    · rw [e]
    · rw [mIter, ih (by omega), mStep_none h]
theorem madeOf_eq {t : Trade} {n : Nat} (hn : n ≤ 64) (h : ∀ j, j < t.co.length → mReady t (mIter t n).1 (mIter t n).2 j = false) : madeOf t = (mIter t n).1 := by
  rw [madeOf, mIter_stop h 64 hn]
structure MInv (t : Trade) (d : List Int) (q : List Nat) : Prop where
  dl : d.length = t.cu.length
  ql : q.length = t.co.length
  qn : ∀ c, c < t.co.length → q.getD c 0 ≤ t.cu.length
  own : ∀ i, i < t.cu.length → d.getD i 0 = -1 ∨ d.getD i 0 ∈ listAt t i
  few : ∀ c : Nat, c < t.co.length → ((sellN d c).length : Int) ≤ roomAt t c
  ask : ∀ c i : Nat, c < t.co.length → i < t.cu.length → rankN t c i < q.getD c 0 → placeT t i (d.getD i 0) ≤ placeT t i c
  got : ∀ c i : Nat, c < t.co.length → i < t.cu.length → d.getD i 0 = c → rankN t c i < q.getD c 0
theorem mInv_init {t : Trade} (hT : TradeOk t) : MInv t (List.replicate t.cu.length (-1)) (List.replicate t.co.length 0) := by
  have hg : ∀ i, i < t.cu.length → (List.replicate t.cu.length (-1 : Int)).getD i 0 = -1 := fun i hi => by
    rw [List.getD_eq_getElem?_getD, List.getElem?_replicate, if_pos hi]; rfl
  have hq : ∀ c, (List.replicate t.co.length 0).getD c 0 = 0 := fun c => by
    rw [List.getD_eq_getElem?_getD, List.getElem?_replicate]; split <;> rfl
  refine ⟨by simp, by simp, fun c hc => by rw [hq]; omega, fun i hi => .inl (hg i hi), fun c hc => ?_, fun c i hc hi h => ?_, fun c i hc hi h => ?_⟩
  · have : sellN (List.replicate t.cu.length (-1)) c = [] := by
      rw [List.eq_nil_iff_forall_not_mem]
      intro k hk
      obtain ⟨h1, h2⟩ := mem_sell.mp hk
      rw [hg k (by simpa using h1)] at h2
      omega
    rw [this]
    exact (hT.room c hc).1
  · exfalso
    rw [hq] at h
    obtain ⟨j, _, h2⟩ := rank_at hT hc hi
    omega
  · rw [hg i hi] at h
    omega
theorem getD_setN {q : List Nat} {i j x : Nat} (hi : i < q.length) : (q.set i x).getD j 0 = if i = j then x else q.getD j 0 := by
  rw [List.getD_eq_getElem?_getD, List.getElem?_set]
  split
  · rename_i e; subst e; simp [hi]
  · rw [List.getD_eq_getElem?_getD]
theorem mWho_at {t : Trade} (hT : TradeOk t) {q : List Nat} {k : Nat} (hk : k < t.co.length) (hq : q.getD k 0 < t.cu.length) : (likesAt t k)[q.getD k 0]? = some ((mWho t q k : Nat) : Int) ∧ mWho t q k < t.cu.length ∧ rankN t k (mWho t q k) = q.getD k 0 := by
  have hL := hT.likes k hk
  have hl : q.getD k 0 < (likesAt t k).length := by rw [hL.len]; exact hq
  have hr := hL.rng _ (List.getElem_mem hl)
  have he : (likesAt t k).getD (q.getD k 0) 0 = (likesAt t k)[q.getD k 0] := by rw [List.getD_eq_getElem?_getD (l := likesAt t k), List.getElem?_eq_getElem hl]; rfl
  have h1 : (likesAt t k)[q.getD k 0]? = some ((mWho t q k : Nat) : Int) := by
    rw [List.getElem?_eq_getElem hl, mWho, he, Option.some.injEq]; omega
  have h2 : mWho t q k < t.cu.length := by rw [mWho, he]; omega
  obtain ⟨j, a1, a2⟩ := rank_at hT hk h2
  have := (List.getElem?_inj hl hL.nd).mp (h1.trans a1.symm)
  exact ⟨h1, h2, by rw [a2, ← this]⟩
theorem mInv_next {t : Trade} (hT : TradeOk t) {s : List Int × List Nat} (h : MInv t s.1 s.2) {k : Nat} (hk : k < t.co.length) (hr : mReady t s.1 s.2 k = true) : MInv t (mNext t s k).1 (mNext t s k).2 := by
  obtain ⟨d, q⟩ := s
  simp only [mNext] at h hr ⊢
  unfold mReady at hr
  simp only [Bool.and_eq_true, decide_eq_true_eq, (hT.likes k hk).len] at hr
  obtain ⟨hr1, hr2⟩ := hr
  obtain ⟨-, hi, hrk⟩ := mWho_at hT hk hr2
  generalize mWho t q k = i at *
  have hil : i < d.length := by rw [h.dl]; exact hi
  have hg : ∀ j, (d.set i (k : Int)).getD j 0 = if i = j then (k : Int) else d.getD j 0 := fun j => getD_set hil
  have hgq : ∀ c, (q.set k (q.getD k 0 + 1)).getD c 0 = if k = c then q.getD k 0 + 1 else q.getD c 0 := fun c => getD_setN (by rw [h.ql]; exact hk)
  have hqn : ∀ c, c < t.co.length → (q.set k (q.getD k 0 + 1)).getD c 0 ≤ t.cu.length := fun c hc => by
    rw [hgq]; split
    · omega
    · exact h.qn c hc
  have hql : (q.set k (q.getD k 0 + 1)).length = t.co.length := by rw [List.length_set]; exact h.ql
  generalize (q.set k (q.getD k 0 + 1)) = q' at *
  -- who has been asked by a country anew
  have hnew : ∀ c j : Nat, c < t.co.length → j < t.cu.length → rankN t c j < q'.getD c 0 → rankN t c j < q.getD c 0 ∨ (c = k ∧ j = i) := fun c j hc hj hlt => by
    rw [hgq] at hlt
    split at hlt
    · rename_i e; subst e
      by_cases e2 : rankN t k j = q.getD k 0
      · exact .inr ⟨rfl, rank_inj hT hk hj hi (by omega)⟩
      · exact .inl (by omega)
    · exact .inl hlt
  have hold : ∀ c j : Nat, rankN t c j < q.getD c 0 → rankN t c j < q'.getD c 0 := fun c j hlt => by
    rw [hgq]; split
    · rename_i e; subst e; omega
    · exact hlt
  split
  · rename_i hp
    have hkl : (k : Int) ∈ listAt t i := place_lt.mp (by have := (place_le t i (d.getD i 0)).2; omega)
    have hdk : d.getD i 0 ≠ k := fun e => by rw [e] at hp; omega
    have hlen : (d.set i (k : Int)).length = d.length := List.length_set
    refine ⟨by rw [hlen]; exact h.dl, hql, hqn, fun j hj => ?_, fun c hc => ?_, fun c j hc hj hlt => ?_, fun c j hc hj he => ?_⟩
    · rw [hg]; split
      · rename_i e; subst e; exact .inr hkl
      · exact h.own j hj
    · by_cases e : c = k
      · subst e
        have hnot : i ∉ sellN d c := fun hm => hdk (mem_sell.mp hm).2
        have : (sellN (d.set i (c : Int)) c).length ≤ (i :: sellN d c).length := nodup_subN (sell_nodup _ _) (fun j hj => by
          obtain ⟨j1, j2⟩ := mem_sell.mp hj
          rw [hg] at j2
          rw [hlen] at j1
          by_cases e : i = j
          · subst e; exact List.mem_cons_self
          · rw [if_neg e] at j2
            exact List.mem_cons_of_mem _ (mem_sell.mpr ⟨j1, j2⟩))
        rw [List.length_cons] at this
        omega
      · have : (sellN (d.set i (k : Int)) c).length ≤ (sellN d c).length := nodup_subN (sell_nodup _ _) (fun j hj => by
          obtain ⟨j1, j2⟩ := mem_sell.mp hj
          rw [hg] at j2
          rw [hlen] at j1
          split at j2
          · omega
          · exact mem_sell.mpr ⟨j1, j2⟩)
        have := h.few c hc
        omega
    · have hle : ∀ j, placeT t j ((d.set i (k : Int)).getD j 0) ≤ placeT t j (d.getD j 0) := fun j => by
        rw [hg]; split
        · rename_i e; subst e; omega
        · exact Int.le_refl _
      rcases hnew c j hc hj hlt with h1 | ⟨rfl, rfl⟩
      · have := h.ask c j hc hj h1
        have := hle j
        omega
      · rw [hg, if_pos rfl]; exact Int.le_refl _
    · rw [hg] at he
      split at he
      · rename_i e; subst e
        have : c = k := by omega
        subst this
        rw [hgq, if_pos rfl]; omega
      · exact hold c j (h.got c j hc hj he)
  · rename_i hp
    refine ⟨h.dl, hql, hqn, h.own, h.few, fun c j hc hj hlt => ?_, fun c j hc hj he => hold c j (h.got c j hc hj he)⟩
    rcases hnew c j hc hj hlt with h1 | ⟨rfl, rfl⟩
    · exact h.ask c j hc hj h1
    · omega
theorem sumTo_set {q : List Nat} : ∀ {m k : Nat}, k < m → m ≤ q.length → sumTo (fun c => (q.set k (q.getD k 0 + 1)).getD c 0) m = sumTo (fun c => q.getD c 0) m + 1
  | 0, k, h, _ => absurd h (Nat.not_lt_zero k)
  | m + 1, k, h, hm => by
    have hlt : ∀ n, n ≤ k → sumTo (fun c => (q.set k (q.getD k 0 + 1)).getD c 0) n = sumTo (fun c => q.getD c 0) n := by
      intro n
      induction n with
      | zero => intro _; rfl
      | succ n ih =>
        intro hn
        simp only [sumTo]
        rw [ih (by omega), getD_setN (by omega), if_neg (by omega)]
    simp only [sumTo]
    by_cases e : k = m
    · subst e
      rw [hlt k (Nat.le_refl _), getD_setN (by omega), if_pos rfl]; omega
    · rw [sumTo_set (by omega) (by omega), getD_setN (by omega), if_neg e]; omega
theorem sumTo_bound {f : Nat → Nat} {b : Nat} : ∀ {m : Nat}, (∀ c, c < m → f c ≤ b) → sumTo f m ≤ m * b
  | 0, _ => by simp [sumTo]
  | m + 1, h => by
    have := sumTo_bound (m := m) (fun c hc => h c (by omega))
    have := h m (by omega)
    rw [sumTo, Nat.succ_mul]; omega
/-- how many have been asked behind some steps -/
structure MAt (t : Trade) (n : Nat) (d : List Int) (q : List Nat) : Prop where
  at' : mIter t n = (d, q)
  inv : MInv t d q
  sum : sumTo (fun c => q.getD c 0) t.co.length = n
theorem mAt_init {t : Trade} (hT : TradeOk t) : MAt t 0 (List.replicate t.cu.length (-1)) (List.replicate t.co.length 0) := by
  refine ⟨rfl, mInv_init hT, ?_⟩
  have : sumTo (fun c => (List.replicate t.co.length 0).getD c 0) t.co.length ≤ t.co.length * 0 := sumTo_bound fun c hc => by
    rw [List.getD_eq_getElem?_getD, List.getElem?_replicate]; split <;> exact Nat.le_refl _
  omega
theorem mAt_next {t : Trade} (hT : TradeOk t) {n : Nat} {d : List Int} {q : List Nat} (h : MAt t n d q) {k : Nat} (hk : k < t.co.length) (hr : mReady t d q k = true) (hl : ∀ j, j < k → mReady t d q j = false) : MAt t (n + 1) (mNext t (d, q) k).1 (mNext t (d, q) k).2 := by
  refine ⟨?_, mInv_next hT h.inv hk hr, ?_⟩
  · rw [mIter, h.at', mStep_first (s := (d, q)) hk hr hl]
  · simp only [mNext]
    rw [sumTo_set hk (by rw [h.inv.ql]; exact Nat.le_refl _), h.sum]
theorem mAt_le {t : Trade} (hT : TradeOk t) {n : Nat} {d : List Int} {q : List Nat} (h : MAt t n d q) : n ≤ 40 := by
  have h1 := sumTo_bound h.inv.qn
  rw [h.sum] at h1
  have h2 := hT.n
  have h3 := hT.m
  have : t.co.length * t.cu.length ≤ 5 * 8 := Nat.mul_le_mul h3.2 h2.2
  omega
theorem mAt_stable {t : Trade} (hT : TradeOk t) {n : Nat} {d : List Int} {q : List Nat} (h : MAt t n d q) (hall : ∀ j, j < t.co.length → mReady t d q j = false) : d = madeOf t ∧ StableT t d := by
  have hle := mAt_le hT h
  have hle : n ≤ 64 := Nat.le_trans hle (by decide)
  have hall2 : ∀ j, j < t.co.length → mReady t (mIter t n).1 (mIter t n).2 j = false := by rw [h.at']; exact hall
  have e := madeOf_eq hle hall2
  rw [h.at'] at e
  refine ⟨e.symm, h.inv.dl, h.inv.own, h.inv.few, fun i c hi hc hp => ?_⟩
  · have hcm := own_lt hT hi hc
    have hnr := hall c hcm
    unfold mReady at hnr
    simp only [Bool.and_eq_false_iff, decide_eq_false_iff_not, (hT.likes c hcm).len] at hnr
    have hna : ¬ rankN t c i < q.getD c 0 := by
      intro h1
      have := h.inv.ask c i hcm hi h1
      omega
    obtain ⟨j, j1, j2⟩ := rank_at hT hcm hi
    have hjl := (List.getElem?_eq_some_iff.mp j1).1
    rw [(hT.likes c hcm).len] at hjl
    have hf := h.inv.few c hcm
    have hfull : ((sellN d c).length : Int) = roomAt t c := by
      rcases hnr with h1 | h1
      · omega
      · omega
    refine ⟨hfull, fun k hk => ?_⟩
    obtain ⟨k1, k2⟩ := mem_sell.mp hk
    have := h.inv.got c k hcm (by rw [← h.inv.dl]; exact k1) k2
    omega
theorem made_stable {t : Trade} (hT : TradeOk t) : StableT t (madeOf t) := by
  have key : ∀ (m n : Nat) (d : List Int) (q : List Nat), n + m = 41 → MAt t n d q → ∃ n d q, MAt t n d q ∧ ∀ j, j < t.co.length → mReady t d q j = false := by
    intro m
    induction m with
    | zero =>
      intro n d q hn h
      have := mAt_le hT h
      omega
    | succ m ih =>
      intro n d q hn h
      by_cases hall : ∀ j, j < t.co.length → mReady t d q j = false
      · exact ⟨n, d, q, h, hall⟩
      · obtain ⟨j, hj⟩ := Classical.not_forall.mp hall
        obtain ⟨hj, hr⟩ := Classical.not_imp.mp hj
        obtain ⟨k, hk, hless⟩ := least_nat (p := fun j => mReady t d q j = true) ⟨j, by simpa using hr⟩
        have hkj : k ≤ j := by
          refine Classical.byContradiction fun h2 => hless j (by omega) (by simpa using hr)
        exact ih (n + 1) _ _ (by omega) (mAt_next hT h (by omega) hk fun i hi => by simpa using hless i hi)
  obtain ⟨n, d, q, h1, h2⟩ := key 41 0 _ _ rfl (mAt_init hT)
  obtain ⟨e, hs⟩ := mAt_stable hT h1 h2
  rw [← e]; exact hs
end Go.Proofs.Ytoafhoihigfllaa.E
