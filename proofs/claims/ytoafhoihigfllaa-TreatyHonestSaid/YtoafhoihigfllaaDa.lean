/-
  The chapter of the treaty: the exchange by the rings is the only one of its kind; nobody gets more by other wishes, in plain words. Conditions: none.
-/
import Derived.Test.YtoafhoihigfllaaCa
namespace Go.Proofs.Ytoafhoihigfllaa.E
open Go Go.RowKit
set_option linter.unusedVariables false
set_option linter.unusedSimpArgs false
theorem Facts.surj {w : List (Bool × List Int)} {x : Nat → Nat} {D : List Bool} (h : Facts w x D) {g : Nat} (hg : D.getD g false = true) : ∃ p, D.getD p false = true ∧ x p = g := by
  let L := (List.range w.length).filter fun y => D.getD y false
  have hL : ∀ y, y ∈ L ↔ D.getD y false = true := fun y => by
    simp only [L, List.mem_filter, List.mem_range]
    exact ⟨fun h => h.2, fun h2 => ⟨h.lt y h2, h2⟩⟩
  have hLn : L.Nodup := List.nodup_range.filter _
  have hM : (L.map x).Nodup := by
    rw [List.nodup_iff_pairwise_ne, List.pairwise_map]
    rw [List.nodup_iff_pairwise_ne] at hLn
    refine List.Pairwise.imp_of_mem ?_ hLn
    intro y z hy hz hne e
    exact hne (h.inj y z ((hL y).mp hy) ((hL z).mp hz) e)
  have hsub : ∀ z ∈ L.map x, z ∈ L := fun z hz => by
    obtain ⟨y, hy, rfl⟩ := List.mem_map.mp hz
    exact (hL _).mpr (h.closed y ((hL y).mp hy))
  by_cases hmem : g ∈ L.map x
  · obtain ⟨p, hp, e⟩ := List.mem_map.mp hmem
    exact ⟨p, (hL p).mp hp, e⟩
  · have := nodup_sub (g :: L.map x) L (List.nodup_cons.mpr ⟨hmem, hM⟩) (fun z hz => by
      rcases List.mem_cons.mp hz with rfl | hz
      · exact (hL _).mpr hg
      · exact hsub z hz)
    simp only [List.length_cons, List.length_map] at this
    omega
/-- who is not among some gets nothing of theirs -/
theorem outside {w : List (Bool × List Int)} {x y : Nat → Nat} {D E : List Bool} (hx : Facts w x D) (hy : Facts w y E) (hall : ∀ j, j < w.length → E.getD j false = true) (hsame : ∀ k, D.getD k false = true → y k = x k) {k : Nat} (hk : k < w.length) (hd : D.getD k false = false) : D.getD (y k) false = false := by
  cases h : D.getD (y k) false with
  | false => rfl
  | true =>
    obtain ⟨p, hp, e⟩ := hx.surj h
    have := hy.inj p k (hall p (hx.lt p hp)) (hall k hk) (by rw [hsame p hp, e])
    rw [this, hd] at hp
    simp at hp
theorem ring_from {f : Nat → Nat} {k : Nat} {r : List Nat} (hr : RingIs f k r) {z y : Nat} (hz : z ∈ r) (hy : y ∈ r) : ∃ j, itr f j z = y := by
  obtain ⟨p, m, t, hc, hm, rfl⟩ := hr
  have hcm := cyc_mem hc hm.1
  obtain ⟨i, hi, rfl⟩ := mem_orb.mp hz
  have := (hcm.mem_shift y i).mpr hy
  obtain ⟨j, _, e⟩ := mem_orb.mp this
  exact ⟨j, e⟩
theorem good_unique {w : List (Bool × List Int)} (hw : Wish w) {x y : Nat → Nat} {D E : List Bool} (hx : Good w x D) (hy : Good w y E) (hall : ∀ j, j < w.length → E.getD j false = true) : ∀ k, D.getD k false = true → y k = x k := by
  have hfy := hy.facts hw
  induction hx with
  | nil => exact fun k hk => by rw [List.getD_eq_getElem?_getD, List.getElem?_replicate] at hk; split at hk <;> simp at hk
  | @ring D k0 r h hl hk hd hr hxr ih =>
    have hfx := h.facts hw
    obtain ⟨_, _, r3, _⟩ := ring_in hw hk hd hr
    have hout := fun z (hz : z ∈ r) => outside hfx hfy hall ih (r3 z hz).1 (r3 z hz).2
    have key : ∀ E', Good w y E' → (∀ z ∈ r, E'.getD z false = true → y z = x z) ∧ ((∃ z ∈ r, E'.getD z false = true) → ∀ z ∈ r, E'.getD z false = true) := by
      intro E' hE
      induction hE with
      | nil =>
        have hno : ∀ y, (List.replicate w.length false).getD y false = false := fun y => by
          rw [List.getD_eq_getElem?_getD, List.getElem?_replicate]; split <;> rfl
        exact ⟨fun z _ h => by rw [hno] at h; simp at h, fun ⟨z, _, h⟩ => by rw [hno] at h; simp at h⟩
      | @ring E0 k1 r' h' hl' hk' hd' hr' hyr ih' =>
        obtain ⟨_, _, q3, _⟩ := ring_in hw hk' hd' hr'
        have hm := fun z => mark_getD r' E0 z (fun x hx => by rw [hl']; exact (q3 x hx).1)
        have hstep : ∀ z ∈ r, z ∈ r' → y z = x z ∧ x z ∈ r' := fun z hz hz' => by
          have hnone : ∀ u ∈ r, E0.getD u false = false := fun u hu => by
            cases hu2 : E0.getD u false with
            | false => rfl
            | true =>
              have := ih'.2 ⟨u, hu, hu2⟩ z hz
              rw [(q3 z hz').2] at this
              simp at this
          have hxz := hxr z hz
          have hyz := hyr z hz'
          have hxin : x z ∈ r := by rw [hxz]; exact ring_closed hr hz
          have a := pt_min hw (r3 z hz).1 (r3 _ hxin).1 (hnone _ hxin)
          have hyn : y z < w.length := hfy.lt _ (hfy.closed z (hall z (r3 z hz).1))
          have b := pt_min hw (r3 z hz).1 hyn (hout z hz)
          rw [← hyz] at a
          rw [← hxz] at b
          have e := plN_inj hw (r3 z hz).1 hyn (r3 _ hxin).1 (by omega)
          refine ⟨e, ?_⟩
          rw [← e, hyz]
          exact ring_closed hr' hz'
        have hthrough : ∀ z ∈ r, z ∈ r' → ∀ u ∈ r, u ∈ r' := fun z hz hz' u hu => by
          obtain ⟨j, e⟩ := ring_from hr hz hu
          have hin : ∀ j, itr (pt w D) j z ∈ r ∧ itr (pt w D) j z ∈ r' := by
            intro j
            induction j with
            | zero => exact ⟨hz, hz'⟩
            | succ j ih =>
              have hs := hstep _ ih.1 ih.2
              rw [hxr _ ih.1] at hs
              exact ⟨ring_closed hr ih.1, hs.2⟩
          exact e ▸ (hin j).2
        have hcase : ∀ z, (mark E0 r').getD z false = true → E0.getD z false = true ∨ z ∈ r' := fun z hz => by
          rw [hm] at hz; simpa using hz
        refine ⟨fun z hz hz2 => ?_, fun ⟨z, hz, hz2⟩ u hu => ?_⟩
        · rcases hcase z hz2 with h1 | h1
          · exact ih'.1 z hz h1
          · exact (hstep z hz h1).1
        · rw [hm]
          rcases hcase z hz2 with h1 | h1
          · rw [ih'.2 ⟨z, hz, h1⟩ u hu]; rfl
          · simp [hthrough z hz h1 u hu]
    intro k hkm
    rw [mark_getD r D k (fun x hx => by rw [hl]; exact (r3 x hx).1)] at hkm
    simp only [Bool.or_eq_true, decide_eq_true_eq] at hkm
    rcases hkm with h1 | h1
    · exact ih k h1
    · exact (key E hy).1 k h1 (hall k (r3 k h1).1)
/-- when one is served -/
theorem Good.stage {w : List (Bool × List Int)} (hw : Wish w) {x : Nat → Nat} {D : List Bool} (h : Good w x D) : ∀ k, D.getD k false = true → ∃ D0, Good w x D0 ∧ D0.getD k false = false ∧ k < w.length ∧ x k = pt w D0 k := by
  induction h with
  | nil => exact fun k hk => by rw [List.getD_eq_getElem?_getD, List.getElem?_replicate] at hk; split at hk <;> simp at hk
  | @ring D k0 r h hl hk hd hr hx ih =>
    intro k hkm
    obtain ⟨_, _, r3, _⟩ := ring_in hw hk hd hr
    rw [mark_getD r D k (fun x hx => by rw [hl]; exact (r3 x hx).1)] at hkm
    simp only [Bool.or_eq_true, decide_eq_true_eq] at hkm
    rcases hkm with h1 | h1
    · exact ih k h1
    · exact ⟨D, h, (r3 k h1).2, (r3 k h1).1, hx k h1⟩
theorem rowAt_set {w : List (Bool × List Int)} {k : Nat} {p : Bool × List Int} {j : Nat} : rowAt (w.set k p) j = if k = j ∧ j < w.length then p.2 else rowAt w j := by
  unfold rowAt
  rw [List.getD_eq_getElem?_getD, List.getElem?_set]
  by_cases e : k = j
  · subst e
    rw [if_pos rfl]
    by_cases h : k < w.length
    · rw [if_pos h, if_pos ⟨rfl, h⟩]; rfl
    · rw [if_neg h, if_neg (fun x => h x.2), List.getD_eq_getElem?_getD, List.getElem?_eq_none (by omega)]
  · rw [if_neg e, if_neg (fun x => e x.1), ← List.getD_eq_getElem?_getD]
theorem Wish.set {w : List (Bool × List Int)} (hw : Wish w) {k : Nat} {p : Bool × List Int} (hp : IsOrd p.2 w.length) : Wish (w.set k p) := by
  refine ⟨by rw [List.length_set]; exact hw.few, fun j hj => ?_⟩
  rw [List.length_set] at hj ⊢
  rw [rowAt_set]
  split
  · exact hp
  · exact hw.ord j hj
theorem pt_set {w : List (Bool × List Int)} {k : Nat} {p : Bool × List Int} {D : List Bool} {j : Nat} (h : j ≠ k) : pt (w.set k p) D j = pt w D j := by
  unfold pt
  rw [rowAt_set, if_neg (fun e => h e.1.symm)]
/-- rings without one stay rings, whatever that one wishes -/
theorem Good.without {w : List (Bool × List Int)} (hw : Wish w) {k : Nat} {p : Bool × List Int} (hp : IsOrd p.2 w.length) {x : Nat → Nat} {D : List Bool} (h : Good w x D) : D.getD k false = false → Good (w.set k p) x D := by
  induction h with
  | nil =>
    intro _
    have : (List.replicate w.length false) = List.replicate (w.set k p).length false := by rw [List.length_set]
    rw [this]; exact .nil
  | @ring D k0 r h hl hk hd hr hx ih =>
    intro hkn
    obtain ⟨r1, _, r3, _⟩ := ring_in hw hk hd hr
    rw [mark_getD r D k (fun x hx => by rw [hl]; exact (r3 x hx).1)] at hkn
    simp only [Bool.or_eq_false_iff, decide_eq_false_iff_not] at hkn
    obtain ⟨hkD, hkr⟩ := hkn
    have hne : ∀ z ∈ r, z ≠ k := fun z hz e => hkr (e ▸ hz)
    obtain ⟨q, m, t, hc, hm, hre⟩ := hr
    have hcm := cyc_mem hc hm.1
    have hmr : m ∈ r := by rw [hre]; exact mem_orb.mpr ⟨0, hc.pos, rfl⟩
    have hrr : RingIs (pt w D) k0 r := ⟨q, m, t, hc, hm, hre⟩
    have hin : ∀ j, itr (pt w D) j m ∈ r := by
      intro j
      induction j with
      | zero => exact hmr
      | succ j ih => exact ring_closed hrr ih
    have hit : ∀ j, itr (pt (w.set k p) D) j m = itr (pt w D) j m := by
      intro j
      induction j with
      | zero => rfl
      | succ j ih =>
        show pt (w.set k p) D (itr (pt (w.set k p) D) j m) = pt w D (itr (pt w D) j m)
        rw [ih, pt_set (hne _ (hin j))]
    have horb : orb (pt (w.set k p) D) q m = orb (pt w D) q m := by
      unfold orb
      exact List.map_congr_left fun j _ => hit j
    have hcyc : Cyc (pt (w.set k p) D) q m := ⟨hc.pos, by rw [hit]; exact hcm.back, fun j h1 h2 => by rw [hit]; exact hcm.fresh j h1 h2⟩
    have hring : RingIs (pt (w.set k p) D) m r := by
      refine ⟨q, m, 0, hcyc, ?_, by rw [horb]; exact hre⟩
      show Least m (orb (pt (w.set k p) D) q m)
      rw [horb, ← hre]
      refine ⟨hmr, fun z hz => ?_⟩
      obtain ⟨j, _, e⟩ := mem_orb.mp (hre ▸ hz)
      obtain ⟨i, hi, ei⟩ := mem_orb.mp hm.1
      exact hm.2 z ((hc.mem_shift z i).mp (by rw [ei]; exact hre ▸ hz))
    exact .ring (ih hkD) (by rw [List.length_set]; exact hl) (by rw [List.length_set]; exact (r3 m hmr).1) (r3 m hmr).2 hring (fun z hz => by rw [pt_set (hne z hz)]; exact hx z hz)
/-- nobody gets more by other wishes -/
theorem honest {w : List (Bool × List Int)} (hw : Wish w) {k : Nat} (hk : k < w.length) {p : Bool × List Int} (hp : IsOrd p.2 w.length) {a b : List Int} (ha : Swapped w a) (hb : Swapped (w.set k p) b) : plN w k (hasN a k) ≤ plN w k (hasN b k) := by
  obtain ⟨D, hg, hall⟩ := ha.good
  obtain ⟨E, hgb, hallb⟩ := hb.good
  have hw' := hw.set (k := k) hp
  rw [List.length_set] at hallb
  obtain ⟨D0, h0, hd0, _, hpt⟩ := hg.stage hw k (hall k hk)
  have h0' := h0.without hw hp hd0
  have hall' : ∀ j, j < (w.set k p).length → E.getD j false = true := fun j hj => hallb j (by rw [List.length_set] at hj; exact hj)
  have hsame := good_unique hw' h0' hgb hall'
  have hfb := hgb.facts hw'
  have hout := outside (h0'.facts hw') hfb hall' hsame (k := k) (by rw [List.length_set]; exact hk) hd0
  have hbn : hasN b k < w.length := by
    have := hfb.lt _ (hfb.closed k (hallb k hk))
    rw [List.length_set] at this; exact this
  rw [hpt]
  exact pt_min hw hk hbn hout
end Go.Proofs.Ytoafhoihigfllaa.E
