/-
  The chapter of the treaty: the theorems of the trade in plain terms: the same curers sell in all stable deals; no list but the true one serves a curer; a country that closes, or opens. Conditions: none.
-/
import Derived.Test.YtoafhoihigfllaaRl
namespace Go.Proofs.Ytoafhoihigfllaa.E
open Go Go.RowKit
set_option linter.unusedVariables false
set_option linter.unusedSimpArgs false
/-- a country takes no fewer by deals that are worse for curers -/
theorem less_many {t : Trade} (hT : TradeOk t) {l s : List Int} (hlen : l.length = t.cu.length) (hown : ∀ i, i < t.cu.length → l.getD i 0 = -1 ∨ l.getD i 0 ∈ listAt t i) (hs : StableT t s) (hle : ∀ i, i < t.cu.length → placeT t i (l.getD i 0) ≤ placeT t i (s.getD i 0)) {c : Nat} (hr : ((sellN l c).length : Int) ≤ roomAt t c) : (sellN l c).length ≤ (sellN s c).length := by
  by_cases h : ∀ k ∈ sellN l c, k ∈ sellN s c
  · exact nodup_subN (sell_nodup l c) h
  · obtain ⟨k, hk⟩ := Classical.not_forall.mp h
    obtain ⟨hk, hn⟩ := Classical.not_imp.mp hk
    obtain ⟨k1, k2⟩ := mem_sell.mp hk
    rw [hlen] at k1
    have hne : s.getD k 0 ≠ c := fun e => hn (mem_sell.mpr ⟨by rw [hs.len]; exact k1, e⟩)
    have hm : (c : Int) ∈ listAt t k := by
      have := hown k k1
      rw [k2] at this
      exact this.resolve_left (by omega)
    have h1 := hle k k1
    rw [k2] at h1
    have h2 : placeT t k c < placeT t k (s.getD k 0) := by
      rcases Int.lt_or_eq_of_le h1 with h2 | h2
      · exact h2
      · exact absurd (place_inj (.inr hm) (hs.own k k1) h2).symm hne
    have := (hs.no k c k1 hm h2).1
    omega
theorem filter_split {α : Type} (p q r : α → Bool) : ∀ (l : List α), (∀ x ∈ l, r x = (p x || q x) ∧ (p x && q x) = false) → (l.filter r).length = (l.filter p).length + (l.filter q).length
  | [], _ => rfl
  | x :: l, h => by
    have ih := filter_split p q r l (fun y hy => h y (List.mem_cons_of_mem _ hy))
    obtain ⟨h1, h2⟩ := h x List.mem_cons_self
    cases hp : p x <;> cases hq : q x <;> rw [hp, hq] at h1 h2 <;> simp [h1, hp, hq, ih] at h2 ⊢ <;> omega
def sumTo (f : Nat → Nat) : Nat → Nat
  | 0 => 0
  | n + 1 => sumTo f n + f n
theorem sumTo_le {f g : Nat → Nat} : ∀ {n : Nat}, (∀ i, i < n → f i ≤ g i) → sumTo f n ≤ sumTo g n
  | 0, _ => Nat.le_refl _
  | n + 1, h => by
    have := sumTo_le (n := n) (fun i hi => h i (by omega))
    have := h n (by omega)
    simp only [sumTo]; omega
theorem sumTo_eq {f g : Nat → Nat} : ∀ {n : Nat}, (∀ i, i < n → f i ≤ g i) → sumTo g n ≤ sumTo f n → ∀ i, i < n → f i = g i
  | 0, _, _, i, hi => absurd hi (Nat.not_lt_zero i)
  | n + 1, h, hs, i, hi => by
    have h1 := sumTo_le (n := n) (fun i hi => h i (by omega))
    have h2 := h n (by omega)
    simp only [sumTo] at hs
    by_cases e : i = n
    · subst e; omega
    · exact sumTo_eq (n := n) (fun i hi => h i (by omega)) (by omega) i (by omega)
/-- who sells to any -/
def soldN (d : List Int) (m : Nat) : List Nat := (List.range d.length).filter fun i => decide (0 ≤ d.getD i 0) && decide (d.getD i 0 < m)
theorem mem_sold {d : List Int} {m k : Nat} : k ∈ soldN d m ↔ k < d.length ∧ 0 ≤ d.getD k 0 ∧ d.getD k 0 < m := by simp [soldN]
theorem sold_nodup (d : List Int) (m : Nat) : (soldN d m).Nodup := List.Pairwise.filter _ List.nodup_range
theorem sum_sold (d : List Int) : ∀ m : Nat, sumTo (fun c => (sellN d c).length) m = (soldN d m).length
  | 0 => by
    have : soldN d 0 = [] := by
      rw [List.eq_nil_iff_forall_not_mem]
      intro k hk
      have := mem_sold.mp hk
      omega
    rw [this]; rfl
  | m + 1 => by
    rw [sumTo, sum_sold d m]
    unfold soldN sellN
    rw [filter_split (fun i => decide (0 ≤ d.getD i 0) && decide (d.getD i 0 < m)) (selB d m) (fun i => decide (0 ≤ d.getD i 0) && decide (d.getD i 0 < (m + 1 : Nat)))]
    intro x _
    simp only [selB]
    constructor
    · rw [Bool.eq_iff_iff]
      simp only [Bool.and_eq_true, Bool.or_eq_true, decide_eq_true_eq, beq_iff_eq]
      omega
    · rw [Bool.eq_false_iff]
      simp only [ne_eq, Bool.and_eq_true, decide_eq_true_eq, beq_iff_eq]
      omega
theorem own_bound {t : Trade} (hT : TradeOk t) {d : List Int} (h : ∀ i, i < t.cu.length → d.getD i 0 = -1 ∨ d.getD i 0 ∈ listAt t i) {i : Nat} (hi : i < t.cu.length) : -1 ≤ d.getD i 0 ∧ d.getD i 0 < t.co.length := by
  rcases h i hi with h1 | h1
  · omega
  · have := (hT.cu i hi).2 _ h1; omega
theorem own_pos {t : Trade} (hT : TradeOk t) {d : List Int} (h : ∀ i, i < t.cu.length → d.getD i 0 = -1 ∨ d.getD i 0 ∈ listAt t i) {i : Nat} (hi : i < t.cu.length) : 0 ≤ d.getD i 0 ↔ d.getD i 0 ∈ listAt t i := by
  constructor
  · intro h1; exact (h i hi).resolve_left (by omega)
  · intro h1; exact ((hT.cu i hi).2 _ h1).1
/-- the same curers sell in all stable deals, and each country takes as many -/
theorem rural {t : Trade} (hT : TradeOk t) {l s : List Int} (hl : BestT t l) (hs : StableT t s) : (∀ c : Nat, c < t.co.length → (sellN l c).length = (sellN s c).length) ∧ ∀ i, i < t.cu.length → (s.getD i 0 < 0 ↔ l.getD i 0 < 0) := by
  have hle := hl.best s hs.fair
  have h1 : ∀ c, c < t.co.length → (sellN l c).length ≤ (sellN s c).length := fun c hc => less_many hT hl.st.len hl.st.own hs hle (hl.st.few c hc)
  have hsub : ∀ k ∈ soldN s t.co.length, k ∈ soldN l t.co.length := fun k hk => by
    obtain ⟨k1, k2, k3⟩ := mem_sold.mp hk
    have hkn : k < t.cu.length := by rw [← hs.len]; exact k1
    have hm := (own_pos hT hs.own hkn).mp k2
    have := place_lt.mpr hm
    have := hle k hkn
    have hm2 : l.getD k 0 ∈ listAt t k := place_lt.mp (by omega)
    exact mem_sold.mpr ⟨by rw [hl.st.len]; exact hkn, (own_pos hT hl.st.own hkn).mpr hm2, (own_bound hT hl.st.own hkn).2⟩
  have h2 : sumTo (fun c => (sellN s c).length) t.co.length ≤ sumTo (fun c => (sellN l c).length) t.co.length := by
    rw [sum_sold, sum_sold]
    exact nodup_subN (sold_nodup s _) hsub
  have h3 := sumTo_eq (f := fun c => (sellN l c).length) (g := fun c => (sellN s c).length) h1 h2
  refine ⟨h3, fun i hi => ?_⟩
  have h4 : (soldN l t.co.length).length ≤ (soldN s t.co.length).length := by
    rw [← sum_sold, ← sum_sold]
    exact sumTo_le h1
  constructor
  · intro h5
    refine Classical.byContradiction fun h6 => ?_
    have hil : i ∈ soldN l t.co.length := mem_sold.mpr ⟨by rw [hl.st.len]; exact hi, by omega, (own_bound hT hl.st.own hi).2⟩
    have his : i ∉ soldN s t.co.length := fun h => by have := (mem_sold.mp h).2.1; omega
    obtain ⟨k, k1, k2⟩ := other_one (sold_nodup s _) (sold_nodup l _) h4 hil his
    exact k2 (hsub k k1)
  · intro h5
    refine Classical.byContradiction fun h6 => ?_
    have his : i ∈ soldN s t.co.length := mem_sold.mpr ⟨by rw [hs.len]; exact hi, by omega, (own_bound hT hs.own hi).2⟩
    have := (mem_sold.mp (hsub i his)).2.1
    omega
/-- trades that differ in one curer's list alone -/
structure Alike (k : Nat) (t u : Trade) : Prop where
  n : t.cu.length = u.cu.length
  m : t.co.length = u.co.length
  cu : ∀ i, i ≠ k → listAt t i = listAt u i
  room : ∀ c, roomAt t c = roomAt u c
  likes : ∀ c, likesAt t c = likesAt u c
theorem Alike.symm {k : Nat} {t u : Trade} (h : Alike k t u) : Alike k u t := ⟨h.n.symm, h.m.symm, fun i hi => (h.cu i hi).symm, fun c => (h.room c).symm, fun c => (h.likes c).symm⟩
theorem Alike.trans {k : Nat} {t u v : Trade} (h : Alike k t u) (g : Alike k u v) : Alike k t v := ⟨h.n.trans g.n, h.m.trans g.m, fun i hi => (h.cu i hi).trans (g.cu i hi), fun c => (h.room c).trans (g.room c), fun c => (h.likes c).trans (g.likes c)⟩
theorem place_list {t u : Trade} {i j : Nat} (h : listAt t i = listAt u j) (x : Int) : placeT t i x = placeT u j x := by simp only [placeT, h]
theorem Alike.stable {k : Nat} {t u : Trade} (h : Alike k t u) {s : List Int} (hs : StableT t s) (hown : s.getD k 0 = -1 ∨ s.getD k 0 ∈ listAt u k) (hno : ∀ c : Nat, (c : Int) ∈ listAt u k → placeT u k c < placeT u k (s.getD k 0) → (c : Int) ∈ listAt t k ∧ placeT t k c < placeT t k (s.getD k 0)) (hk : k < t.cu.length) : StableT u s := by
  refine ⟨by rw [hs.len, h.n], fun i hi => ?_, fun c hc => ?_, fun i c hi hc hp => ?_⟩
  · by_cases e : i = k
    · subst e; exact hown
    · rw [← h.cu i e]; exact hs.own i (by rw [h.n]; exact hi)
  · rw [← h.room]; exact hs.few c (by rw [h.m]; exact hc)
  · have key : ((sellN s c).length : Int) = roomAt t c ∧ ∀ k ∈ sellN s c, rankN t c k ≤ rankN t c i := by
      by_cases e : i = k
      · subst e
        obtain ⟨h1, h2⟩ := hno c hc hp
        exact hs.no i c hk h1 h2
      · have hl := h.cu i e
        rw [← hl] at hc
        rw [← place_list hl, ← place_list hl] at hp
        exact hs.no i c (by rw [h.n]; exact hi) hc hp
    simp only [rankN] at key ⊢
    rw [← h.room, ← h.likes]
    exact key
def withL (t : Trade) (k : Nat) (L : List Int) : Trade := { t with cu := t.cu.set k (false, L) }
theorem withL_list {t : Trade} {k : Nat} (hk : k < t.cu.length) (L : List Int) : listAt (withL t k L) k = L := by
  simp [listAt, withL, List.getD_eq_getElem?_getD, hk]
theorem withL_alike {t : Trade} {k : Nat} (L : List Int) : Alike k t (withL t k L) := by
  refine ⟨by simp [withL], rfl, fun i hi => ?_, fun c => rfl, fun c => rfl⟩
  simp [listAt, withL, List.getD_eq_getElem?_getD, Ne.symm hi]
theorem Alike.ok {k : Nat} {t u : Trade} (h : Alike k t u) (hT : TradeOk t) (hk : (listAt u k).Nodup ∧ ∀ x ∈ listAt u k, 0 ≤ x ∧ x < t.co.length) : TradeOk u := by
  refine ⟨by rw [← h.n]; exact hT.n, by rw [← h.m]; exact hT.m, fun i hi => ?_, fun c hc => ?_, fun c hc => ?_⟩
  · rw [← h.m]
    by_cases e : i = k
    · subst e; exact hk
    · rw [← h.cu i e]; exact hT.cu i (by rw [h.n]; exact hi)
  · rw [← h.room]; exact hT.room c (by rw [h.m]; exact hc)
  · rw [← h.likes, ← h.n]; exact hT.likes c (by rw [h.m]; exact hc)
/-- no list but the true one gets a curer a country that they like better -/
theorem truly {t u : Trade} {k : Nat} (hT : TradeOk t) (hU : TradeOk u) (hk : k < t.cu.length) (h : Alike k t u) {l m : List Int} (hl : BestT t l) (hm : BestT u m) : placeT t k (l.getD k 0) ≤ placeT t k (m.getD k 0) := by
  rcases Int.lt_or_le (placeT t k (m.getD k 0)) (placeT t k (l.getD k 0)) with hlt | hge
  · exfalso
    have hkl := (place_le t k (l.getD k 0)).2
    have hmc : m.getD k 0 ∈ listAt t k := place_lt.mp (by omega)
    obtain ⟨c, hc, hcm⟩ := list_nat hT hk hmc
    rw [hc] at hmc hlt
    obtain ⟨p, hp, hpc⟩ := place_mem hmc
    have hnod := hT.cu k hk
    -- who tells that country alone gets it
    have hay : Alike k t (withL t k [(c : Int)]) := withL_alike _
    have hYl : listAt (withL t k [(c : Int)]) k = [(c : Int)] := withL_list hk _
    have hY : TradeOk (withL t k [(c : Int)]) := hay.ok hT (by rw [hYl]; exact ⟨by simp, fun x hx => by simp at hx; omega⟩)
    generalize withL t k [(c : Int)] = y at *
    have hplc : placeT y k c = 0 := by simp [placeT, hYl, idx, List.findIdx?_cons]
    have hmy : StableT y m := by
      refine (h.symm.trans hay).stable hm.st (.inr (by rw [hYl, hc]; exact List.mem_singleton.mpr rfl)) (fun e he hpe => ?_) (by rw [← h.n]; exact hk)
      rw [hYl, List.mem_singleton] at he
      rw [hc, he] at hpe
      omega
    have hby := dealsOf_best hY
    have hky : k < y.cu.length := by rw [← hay.n]; exact hk
    have hyk : (dealsOf y).getD k 0 = c := by
      have h1 := hby.best m hmy.fair k hky
      rw [hc, hplc] at h1
      have hone : ((listAt y k).length : Int) = 1 := by rw [hYl]; rfl
      have h2 : (dealsOf y).getD k 0 ∈ listAt y k := place_lt.mp (by omega)
      rw [hYl, List.mem_singleton] at h2
      exact h2
    -- who tells all up to that country sells to one of them
    have haz : Alike k t (withL t k ((listAt t k).take (p + 1))) := withL_alike _
    have hZl : listAt (withL t k ((listAt t k).take (p + 1))) k = (listAt t k).take (p + 1) := withL_list hk _
    have hZ : TradeOk (withL t k ((listAt t k).take (p + 1))) := haz.ok hT (by rw [hZl]; exact ⟨hnod.1.sublist (List.take_sublist _ _), fun x hx => hnod.2 x (List.mem_of_mem_take hx)⟩)
    generalize withL t k ((listAt t k).take (p + 1)) = z at *
    have hplz : ∀ x, x ∈ (listAt t k).take (p + 1) → placeT z k x = placeT t k x ∧ placeT t k x ≤ p := fun x hx => by
      have hx2 := hx
      rw [← hZl] at hx2
      obtain ⟨j, h1, h2⟩ := place_mem hx2
      rw [hZl, List.getElem?_take] at h1
      split at h1
      · rename_i hj
        have := place_at hT hk h1
        omega
      · cases h1
    have hcz : (c : Int) ∈ (listAt t k).take (p + 1) := by
      refine List.mem_of_getElem? (i := p) ?_
      rw [List.getElem?_take, if_pos (by omega), hp]
    have hbz := dealsOf_best hZ
    have hkz : k < z.cu.length := by rw [← haz.n]; exact hk
    generalize dealsOf z = s at hbz
    generalize dealsOf y = d at *
    have hsz := hbz.st
    have hsk : s.getD k 0 ∈ (listAt t k).take (p + 1) := by
      rcases hsz.own k hkz with h1 | h1
      · exfalso
        have hsy : StableT y s := by
          refine (haz.symm.trans hay).stable hsz (.inl h1) (fun e he hpe => ?_) hkz
          rw [hYl, List.mem_singleton] at he
          rw [he]
          refine ⟨by rw [hZl]; exact hcz, ?_⟩
          have hn : (-1 : Int) ∉ listAt z k := fun hx => by have := (hZ.cu k hkz).2 _ hx; omega
          rw [h1, place_not hn]
          exact place_lt.mpr (by rw [hZl]; exact hcz)
        have := (rural hY hby hsy).2 k hky
        rw [h1, hyk] at this
        omega
      · rw [← hZl]; exact h1
    have hst : StableT t s := by
      refine haz.symm.stable hsz (.inr (List.mem_of_mem_take hsk)) (fun e he hpe => ?_) hkz
      obtain ⟨h1, h2⟩ := hplz _ hsk
      obtain ⟨j, h3, h4⟩ := place_mem he
      have hez : (e : Int) ∈ (listAt t k).take (p + 1) := by
        refine List.mem_of_getElem? (i := j) ?_
        rw [List.getElem?_take, if_pos (by omega), h3]
      refine ⟨by rw [hZl]; exact hez, ?_⟩
      rw [(hplz _ hez).1, h1]
      exact hpe
    have := hl.best s hst.fair k hk
    have := (hplz _ hsk).2
    omega
  · exact hge
/-- trades that differ in rooms alone, of which the one has no more -/
structure Roomy (x t : Trade) : Prop where
  cu : x.cu.length = t.cu.length
  m : x.co.length = t.co.length
  list : ∀ i, listAt x i = listAt t i
  room : ∀ c, c < t.co.length → roomAt x c ≤ roomAt t c
  likes : ∀ c, likesAt x c = likesAt t c
theorem Roomy.fair {x t : Trade} (h : Roomy x t) {s : List Int} (hs : StableT x s) : FairT t s := by
  refine ⟨by rw [hs.len, h.cu], fun i hi => ?_, fun c hc => ?_, fun i c hi hc hp => ?_⟩
  · rw [← h.list i]; exact hs.own i (by rw [h.cu]; exact hi)
  · have := hs.few c (by rw [h.m]; exact hc)
    have := h.room c hc
    omega
  · have hl := h.list i
    rw [← hl] at hc
    rw [← place_list hl, ← place_list hl] at hp
    have := (hs.no i c (by rw [h.cu]; exact hi) hc hp).2
    simp only [rankN, h.likes] at this ⊢
    exact this
/-- with less room no curer sells to a country that they like better, and a country with as much room takes no fewer -/
theorem closed {x t : Trade} (hX : TradeOk x) (hT : TradeOk t) (h : Roomy x t) {l m : List Int} (hl : BestT t l) (hm : BestT x m) : (∀ i, i < t.cu.length → placeT t i (l.getD i 0) ≤ placeT t i (m.getD i 0)) ∧ ∀ c, c < t.co.length → roomAt x c = roomAt t c → (sellN l c).length ≤ (sellN m c).length := by
  have h1 : ∀ i, i < t.cu.length → placeT t i (l.getD i 0) ≤ placeT t i (m.getD i 0) := hl.best m (h.fair hm.st)
  refine ⟨h1, fun c hc hr => less_many hX (by rw [hl.st.len, h.cu]) (fun i hi => ?_) hm.st (fun i hi => ?_) ?_⟩
  · rw [h.list]; exact hl.st.own i (by rw [← h.cu]; exact hi)
  · rw [place_list (h.list i), place_list (h.list i)]; exact h1 i (by rw [← h.cu]; exact hi)
  · rw [hr]; exact hl.st.few c hc
end Go.Proofs.Ytoafhoihigfllaa.E
