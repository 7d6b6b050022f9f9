/-
  The chapter of the treaty: the exchange by the rings in plain words: who gets what; no set does better. Conditions: none.
-/
import Derived.Test.YtoafhoihigfllaaBx
namespace Go.Proofs.Ytoafhoihigfllaa.E
open Go Go.RowKit
set_option linter.unusedVariables false
set_option linter.unusedSimpArgs false
/-- rings, one after the other, from none on -/
inductive Reach (w : List (Bool × List Int)) : List Bool → List (List Nat) → Prop where
  | nil : Reach w (List.replicate w.length false) []
  | snoc {D : List Bool} {out : List (List Nat)} {k : Nat} {r : List Nat} (h : Reach w D out) (hk : k < w.length) (hd : D.getD k false = false) (hr : RingIs (pt w D) k r) : Reach w (mark D r) (out ++ [r])
theorem mark_getD (r : List Nat) : ∀ (D : List Bool) (y : Nat), (∀ x ∈ r, x < D.length) → (mark D r).getD y false = (D.getD y false || decide (y ∈ r)) := by
  induction r with
  | nil => intro D y _; simp
  | cons x r ih =>
    intro D y h
    rw [mark_cons, ih (D.set x true) y (fun z hz => by rw [List.length_set]; exact h z (List.mem_cons_of_mem _ hz))]
    have hx := h x List.mem_cons_self
    have e : (D.set x true).getD y false = (D.getD y false || decide (y = x)) := by
      rw [List.getD_eq_getElem?_getD, List.getElem?_set, List.getD_eq_getElem?_getD]
      by_cases hy : x = y
      · subst hy; simp [hx]
      · rw [if_neg hy]; simp [Ne.symm hy]
    rw [e, Bool.or_assoc]
    congr 1
    rw [Bool.eq_iff_iff]; simp
theorem Reach.len {w : List (Bool × List Int)} {D : List Bool} {out : List (List Nat)} (h : Reach w D out) : D.length = w.length := by
  induction h with
  | nil => simp
  | snoc h hk hd hr ih => rw [mark_length, ih]
theorem reach_end {w : List (Bool × List Int)} (hw : Wish w) : ∀ (fuel k : Nat) (d : List Bool) (out : List (List Nat)), Rd w fuel k d out → Reach w d out → (∀ j, j < k → d.getD j false = true) → ∃ D, Reach w D (ringsOf w) ∧ ∀ j, j < w.length → D.getD j false = true
  | 0, k, d, out, h, _, _ => by have := h.fuel; omega
  | fuel+1, k, d, out, h, hR, hj => by
    by_cases hk : w.length ≤ k
    · have h1 := h.end hk
      subst h1
      exact ⟨d, hR, fun j hjn => hj j (by omega)⟩
    · cases hd : d.getD k false with
      | true =>
        refine reach_end hw fuel (k + 1) d out (h.next (by omega) hd) hR fun j hjk => ?_
        by_cases e : j = k
        · subst e; exact hd
        · exact hj j (by omega)
      | false =>
        obtain ⟨r, hr⟩ := ring_exists hw d (show k < w.length by omega)
        obtain ⟨_, _, r3, _⟩ := ring_in hw (show k < w.length by omega) hd hr
        refine reach_end hw fuel k _ _ (h.ring hw (by omega) hd hr).1 (.snoc hR (by omega) hd hr) fun j hjk => ?_
        rw [mark_getD r d j (fun x hx => by rw [h.len]; exact (r3 x hx).1), hj j hjk]; rfl
theorem reach_all {w : List (Bool × List Int)} (hw : Wish w) : ∃ D, Reach w D (ringsOf w) ∧ ∀ j, j < w.length → D.getD j false = true :=
  reach_end hw _ _ _ _ (rd_first hw) .nil (fun j h => by omega)
/-- who gets what: within each ring, what one points at -/
inductive Good (w : List (Bool × List Int)) (x : Nat → Nat) : List Bool → Prop where
  | nil : Good w x (List.replicate w.length false)
  | ring {D : List Bool} {k : Nat} {r : List Nat} (h : Good w x D) (hl : D.length = w.length) (hk : k < w.length) (hd : D.getD k false = false) (hr : RingIs (pt w D) k r) (hx : ∀ y ∈ r, x y = pt w D y) : Good w x (mark D r)
theorem Good.agree {w : List (Bool × List Int)} (hw : Wish w) {x x' : Nat → Nat} {D : List Bool} (h : Good w x D) : (∀ y, D.getD y false = true → x' y = x y) → Good w x' D := by
  induction h with
  | nil => exact fun _ => .nil
  | ring h hl hk hd hr hx ih =>
    intro ha
    obtain ⟨_, _, r3, _⟩ := ring_in hw hk hd hr
    have hm := fun y => mark_getD _ _ y (fun x hx => by rw [hl]; exact (r3 x hx).1)
    refine .ring (ih fun y hy => ha y (by rw [hm, hy]; rfl)) hl hk hd hr fun y hy => ?_
    rw [ha y (by rw [hm]; simp [hy]), hx y hy]
/-- what a ring puts -/
theorem fold_put1 (r : List Nat) (hnd : r.Nodup) : ∀ (j : Nat) (o : List Int), j ≤ r.length → (∀ x ∈ r, x < o.length) → ∀ y, y < o.length →
    ((List.range j).foldl (put1 r) o).getD y 0 = if (r.idxOf y < j) then ((r.getD ((r.idxOf y + 1) % r.length) 0 : Nat) : Int) else o.getD y 0 := by
  intro j
  induction j with
  | zero => intro o _ _ y _; simp
  | succ j ih =>
    intro o hj ho y hy
    rw [List.range_succ, List.foldl_append]
    simp only [List.foldl_cons, List.foldl_nil]
    have hl : ((List.range j).foldl (put1 r) o).length = o.length := foldl_put1_length r _ o
    have ih := ih o (by omega) ho y hy
    have hjr : j < r.length := by omega
    have hrj : r.getD j 0 = r[j] := by simp [List.getD_eq_getElem?_getD, List.getElem?_eq_getElem hjr]
    have hidx : r.idxOf r[j] = j := by
      rw [List.idxOf, List.findIdx_eq hjr]
      refine ⟨by simp, fun i hi => ?_⟩
      rw [List.nodup_iff_pairwise_ne, List.pairwise_iff_getElem] at hnd
      simpa using hnd i j (by omega) hjr hi
    generalize (List.range j).foldl (put1 r) o = F at *
    unfold put1
    rw [hrj, List.getD_eq_getElem?_getD, List.getElem?_set]
    by_cases e : r[j] = y
    · rw [if_pos e, if_pos (by rw [hl, e]; exact hy)]
      rw [← e, hidx, if_pos (by omega)]; rfl
    · rw [if_neg e, ← List.getD_eq_getElem?_getD, ih]
      have hne : r.idxOf y ≠ j := fun h => by
        have h2 : r.idxOf y < r.length := by omega
        have := List.getElem_idxOf h2
        exact e (by rw [← this]; congr 1; exact h.symm)
      by_cases h3 : r.idxOf y < j
      · rw [if_pos h3, if_pos (by omega)]
      · rw [if_neg h3, if_neg (by omega)]
theorem putR_get {r : List Nat} (hnd : r.Nodup) {o : List Int} (ho : ∀ x ∈ r, x < o.length) {y : Nat} (hy : y < o.length) : (putR o r).getD y 0 = if y ∈ r then ((r.getD ((r.idxOf y + 1) % r.length) 0 : Nat) : Int) else o.getD y 0 := by
  rw [putR, fold_put1 r hnd _ o (Nat.le_refl _) ho y hy]
  simp only [List.idxOf_lt_length_iff]
/-- who is behind one in a ring -/
theorem ring_next {f : Nat → Nat} {k : Nat} {r : List Nat} (hr : RingIs f k r) (hnd : r.Nodup) {y : Nat} (hy : y ∈ r) : r.getD ((r.idxOf y + 1) % r.length) 0 = f y := by
  obtain ⟨p, m, t, hc, hm, rfl⟩ := hr
  have hcm := cyc_mem hc hm.1
  have hp := hc.pos
  have hlt : (orb f p m).idxOf y < p := by have := List.idxOf_lt_length_of_mem hy; simpa using this
  have hg : (orb f p m)[(orb f p m).idxOf y]'(by simpa using hlt) = y := List.getElem_idxOf _
  rw [orb_get] at hg
  generalize (orb f p m).idxOf y = i at *
  rw [orb_length]
  have hmod : (i + 1) % p < (orb f p m).length := by rw [orb_length]; exact Nat.mod_lt _ hp
  rw [List.getD_eq_getElem?_getD, List.getElem?_eq_getElem hmod, Option.getD_some, orb_get]
  have h1 : f y = itr f (i + 1) m := by rw [← hg]; rfl
  rw [h1]
  by_cases e : i + 1 < p
  · rw [Nat.mod_eq_of_lt e]
  · have : i + 1 = p := by omega
    rw [this, Nat.mod_self, hcm.back]; rfl
theorem Reach.good {w : List (Bool × List Int)} (hw : Wish w) {D : List Bool} {out : List (List Nat)} (h : Reach w D out) : Good w (hasN (swapOf w.length out)) D := by
  induction h with
  | nil => exact .nil
  | @snoc D out k r h hk hd hr ih =>
    obtain ⟨_, _, r3, r4⟩ := ring_in hw hk hd hr
    have hl := h.len
    have ho : (swapOf w.length out).length = w.length := by simp [swapOf, swap_fold_length]
    have hsw : swapOf w.length (out ++ [r]) = putR (swapOf w.length out) r := by rw [swapOf, List.foldl_append]; rfl
    have hget := fun y (hy : y < w.length) => putR_get (o := swapOf w.length out) r4 (fun x hx => by rw [ho]; exact (r3 x hx).1) (y := y) (by rw [ho]; exact hy)
    have hlt : ∀ y, D.getD y false = true → y < w.length := fun y hy => by
      rcases Nat.lt_or_ge y w.length with c | c
      · exact c
      · rw [List.getD_eq_getElem?_getD, List.getElem?_eq_none (by omega)] at hy; simp at hy
    refine .ring (ih.agree hw fun y hy => ?_) hl hk hd hr fun y hy => ?_
    · rw [hasN, hsw, hget y (hlt y hy), if_neg (fun hm => by have := (r3 y hm).2; rw [hy] at this; simp at this)]; rfl
    · rw [hasN, hsw, hget y (r3 y hy).1, if_pos hy, ring_next hr r4 hy, Int.toNat_natCast]
theorem pt_min {w : List (Bool × List Int)} (hw : Wish w) {D : List Bool} {k h : Nat} (hk : k < w.length) (hh : h < w.length) (hd : D.getD h false = false) : plN w k (pt w D k) ≤ plN w k h := by
  obtain ⟨x, hx, hf, _, _, hxp, _⟩ := pt_spec hw hk hh hd
  rw [List.find?_eq_some_iff_getElem] at hf
  obtain ⟨_, i, hi, hix, hn⟩ := hf
  have e := idxOf_row hw hk hi (g := pt w D k) (by rw [hix, hxp])
  rw [e]
  rcases Nat.lt_or_ge (plN w k h) i with c | c
  · have := hn (plN w k h) c
    rw [plN_get hw hk hh, Int.toNat_natCast, hd] at this
    simp at this
  · exact c
theorem ring_closed {f : Nat → Nat} {k : Nat} {r : List Nat} (hr : RingIs f k r) {y : Nat} (hy : y ∈ r) : f y ∈ r := by
  obtain ⟨p, m, t, hc, hm, rfl⟩ := hr
  have hcm := cyc_mem hc hm.1
  have hp := hc.pos
  obtain ⟨j, hj, rfl⟩ := mem_orb.mp hy
  rw [mem_orb]
  by_cases e : j + 1 < p
  · exact ⟨j + 1, e, rfl⟩
  · refine ⟨0, hp, ?_⟩
    have : j + 1 = p := by omega
    show m = itr f (j + 1) m
    rw [this, hcm.back]
theorem ring_inj {f : Nat → Nat} {k : Nat} {r : List Nat} (hr : RingIs f k r) {y z : Nat} (hy : y ∈ r) (hz : z ∈ r) (e : f y = f z) : y = z := by
  obtain ⟨p, m, t, hc, hm, rfl⟩ := hr
  have hcm := cyc_mem hc hm.1
  have hp := hc.pos
  have key : ∀ y, y ∈ orb f p m → itr f (p - 1) (f y) = y := fun y hy => by
    have := (cyc_mem hcm hy).back
    rw [← itr_succ, show p - 1 + 1 = p by omega]; exact this
  rw [← key y hy, ← key z hz, e]
structure Facts (w : List (Bool × List Int)) (x : Nat → Nat) (D : List Bool) : Prop where
  lt : ∀ y, D.getD y false = true → y < w.length
  closed : ∀ y, D.getD y false = true → D.getD (x y) false = true
  inj : ∀ y z, D.getD y false = true → D.getD z false = true → x y = x z → y = z
  own : ∀ y, D.getD y false = true → plN w y (x y) ≤ plN w y y
theorem Good.facts {w : List (Bool × List Int)} (hw : Wish w) {x : Nat → Nat} {D : List Bool} (h : Good w x D) : Facts w x D := by
  induction h with
  | nil =>
    have hno : ∀ y, (List.replicate w.length false).getD y false = false := fun y => by
      rw [List.getD_eq_getElem?_getD, List.getElem?_replicate]; split <;> rfl
    exact ⟨fun y h => by rw [hno] at h; simp at h, fun y h => by rw [hno] at h; simp at h, fun y z h => by rw [hno] at h; simp at h, fun y h => by rw [hno] at h; simp at h⟩
  | @ring D k r h hl hk hd hr hx ih =>
    obtain ⟨_, _, r3, _⟩ := ring_in hw hk hd hr
    have hm := fun y => mark_getD r D y (fun x hx => by rw [hl]; exact (r3 x hx).1)
    have hcase : ∀ y, (mark D r).getD y false = true → D.getD y false = true ∨ y ∈ r := fun y hy => by
      rw [hm] at hy; simpa using hy
    refine ⟨fun y hy => ?_, fun y hy => ?_, fun y z hy hz e => ?_, fun y hy => ?_⟩
    · rcases hcase y hy with h1 | h1
      · exact ih.lt y h1
      · exact (r3 y h1).1
    · rw [hm]
      rcases hcase y hy with h1 | h1
      · rw [ih.closed y h1]; rfl
      · have := ring_closed hr h1
        rw [hx y h1]; simp [this]
    · rcases hcase y hy with h1 | h1
      · rcases hcase z hz with h2 | h2
        · exact ih.inj y z h1 h2 e
        · have a := ih.closed y h1
          rw [e, hx z h2, (r3 _ (ring_closed hr h2)).2] at a
          simp at a
      · rcases hcase z hz with h2 | h2
        · have a := ih.closed z h2
          rw [← e, hx y h1, (r3 _ (ring_closed hr h1)).2] at a
          simp at a
        · rw [hx y h1, hx z h2] at e
          exact ring_inj hr h1 h2 e
    · rcases hcase y hy with h1 | h1
      · exact ih.own y h1
      · rw [hx y h1]
        exact pt_min hw (r3 y h1).1 (r3 y h1).1 (r3 y h1).2
theorem nodup_sub : ∀ (A B : List Nat), A.Nodup → (∀ x ∈ A, x ∈ B) → A.length ≤ B.length
  | [], B, _, _ => Nat.zero_le _
  | x :: A, B, hd, hs => by
    obtain ⟨h1, h2⟩ := List.nodup_cons.mp hd
    have hx := hs x List.mem_cons_self
    have := nodup_sub A (B.erase x) h2 (fun y hy => (List.mem_erase_of_ne (fun (e : y = x) => h1 (e ▸ hy))).mpr (hs y (List.mem_cons_of_mem _ hy)))
    rw [List.length_erase_of_mem hx] at this
    have := List.length_pos_of_mem hx
    simp only [List.length_cons]; omega
/-- a set that does as well for itself does the same -/
theorem core_same {w : List (Bool × List Int)} (hw : Wish w) {x a : Nat → Nat} {S : Nat → Bool} (ha : ∀ k, k < w.length → S k = true → a k < w.length ∧ S (a k) = true ∧ plN w k (a k) ≤ plN w k (x k))
    (hi : ∀ k z, k < w.length → z < w.length → S k = true → S z = true → a k = a z → k = z) {D : List Bool} (h : Good w x D) : ∀ k, D.getD k false = true → S k = true → a k = x k := by
  induction h with
  | nil => exact fun k hk => by rw [List.getD_eq_getElem?_getD, List.getElem?_replicate] at hk; split at hk <;> simp at hk
  | @ring D k0 r h hl hk hd hr hx ih =>
    intro k hkm hS
    obtain ⟨_, _, r3, _⟩ := ring_in hw hk hd hr
    have hf := h.facts hw
    rw [mark_getD r D k (fun x hx => by rw [hl]; exact (r3 x hx).1)] at hkm
    simp only [Bool.or_eq_true, decide_eq_true_eq] at hkm
    rcases hkm with hkD | hkr
    · exact ih k hkD hS
    · obtain ⟨hkn, hkD⟩ := r3 k hkr
      obtain ⟨a1, a2, a3⟩ := ha k hkn hS
      rw [hx k hkr] at a3 ⊢
      cases hDa : D.getD (a k) false with
      | false =>
        have := pt_min hw hkn a1 hDa
        obtain ⟨_, _, _, _, _, hpe, _⟩ := pt_spec hw hkn hkn hkD
        exact plN_inj hw hkn a1 (pt_lt hw D hkn) (by omega)
      | true =>
        exfalso
        let L := (List.range w.length).filter fun y => S y && D.getD y false
        have hL : ∀ y, y ∈ L ↔ y < w.length ∧ S y = true ∧ D.getD y false = true := fun y => by simp [L]
        have hLn : L.Nodup := List.nodup_range.filter _
        have hM : (L.map a).Nodup := by
          rw [List.nodup_iff_pairwise_ne, List.pairwise_map]
          rw [List.nodup_iff_pairwise_ne] at hLn
          refine List.Pairwise.imp_of_mem ?_ hLn
          intro y z hy hz hne e
          have h1 := (hL y).mp hy
          have h2 := (hL z).mp hz
          exact hne (hi y z h1.1 h2.1 h1.2.1 h2.2.1 e)
        have hsub : ∀ z ∈ L.map a, z ∈ L := fun z hz => by
          obtain ⟨y, hy, rfl⟩ := List.mem_map.mp hz
          have h1 := (hL y).mp hy
          obtain ⟨b1, b2, _⟩ := ha y h1.1 h1.2.1
          refine (hL _).mpr ⟨b1, b2, ?_⟩
          rw [ih y h1.2.2 h1.2.1]
          exact hf.closed y h1.2.2
        have hin : a k ∈ L := (hL _).mpr ⟨a1, a2, hDa⟩
        by_cases hmem : a k ∈ L.map a
        · obtain ⟨p, hp, e⟩ := List.mem_map.mp hmem
          have h1 := (hL p).mp hp
          have := hi p k h1.1 hkn h1.2.1 hS e
          rw [this, hkD] at h1
          simp at h1
        · have := nodup_sub (a k :: L.map a) L (List.nodup_cons.mpr ⟨hmem, hM⟩) (fun z hz => by
            rcases List.mem_cons.mp hz with rfl | hz
            · exact hin
            · exact hsub z hz)
          simp only [List.length_cons, List.length_map] at this
          omega
/-- what it takes to do better -/
theorem better_gives {w : List (Bool × List Int)} (hw : Wish w) {x : List Int} {s : Nat} : ∀ (ks : List Nat) (D : List Bool) (b : Bool), ks.Nodup → D.length = 8 → betterA w x s ks D b = true →
    ∃ a : Nat → Nat, (∀ k ∈ ks, a k < w.length ∧ inS s (a k) = true ∧ D.getD (a k) false = false ∧ plN w k (a k) ≤ plN w k (hasN x k)) ∧ (∀ k ∈ ks, ∀ z ∈ ks, a k = a z → k = z) ∧ (b = true ∨ ∃ k ∈ ks, plN w k (a k) < plN w k (hasN x k))
  | [], D, b, _, _, h => ⟨fun _ => 0, by simp, by simp, .inl h⟩
  | k :: ks, D, b, hnd, hD, h => by
    have h8 := hw.few
    obtain ⟨h1, h2⟩ := List.nodup_cons.mp hnd
    rw [betterA, List.any_eq_true] at h
    obtain ⟨g, hg, hc⟩ := h
    simp only [Bool.and_eq_true, Bool.not_eq_true', decide_eq_true_eq] at hc
    obtain ⟨⟨⟨c1, c2⟩, c3⟩, c4⟩ := hc
    have hgn : g < w.length := by simpa using hg
    obtain ⟨a, a1, a2, a3⟩ := better_gives hw ks (D.set g true) _ h2 (by simp [hD]) c4
    have hset : ∀ y, (D.set g true).getD y false = false → y ≠ g ∧ D.getD y false = false := fun y hy => by
      rw [List.getD_eq_getElem?_getD, List.getElem?_set] at hy
      by_cases e : g = y
      · rw [if_pos e, if_pos (by omega)] at hy; simp at hy
      · rw [if_neg e] at hy; exact ⟨fun e2 => e e2.symm, by rw [List.getD_eq_getElem?_getD]; exact hy⟩
    have hne : ∀ z ∈ ks, z ≠ k := fun z hz e => h1 (e ▸ hz)
    refine ⟨fun y => if y = k then g else a y, ?_, ?_, ?_⟩
    · intro z hz
      rcases List.mem_cons.mp hz with rfl | hz
      · simp only [if_true]; exact ⟨hgn, c1, c2, c3⟩
      · simp only [if_neg (hne z hz)]
        obtain ⟨b1, b2, b3, b4⟩ := a1 z hz
        exact ⟨b1, b2, (hset _ b3).2, b4⟩
    · intro y hy z hz e
      rcases List.mem_cons.mp hy with ey | hy2
      · rcases List.mem_cons.mp hz with ez | hz2
        · rw [ey, ez]
        · simp only [if_pos ey, if_neg (hne z hz2)] at e
          exact absurd e.symm (hset _ (a1 z hz2).2.2.1).1
      · rcases List.mem_cons.mp hz with ez | hz2
        · simp only [if_pos ez, if_neg (hne y hy2)] at e
          exact absurd e (hset _ (a1 y hy2).2.2.1).1
        · simp only [if_neg (hne y hy2), if_neg (hne z hz2)] at e
          exact a2 y hy2 z hz2 e
    · rcases a3 with a3 | ⟨z, hz, a3⟩
      · rcases Bool.or_eq_true _ _ ▸ a3 with h3 | h3
        · exact .inl h3
        · exact .inr ⟨k, List.mem_cons_self, by simpa using h3⟩
      · exact .inr ⟨z, List.mem_cons_of_mem _ hz, by simp only [if_neg (hne z hz)]; exact a3⟩
theorem putR_nonneg (r : List Nat) (o : List Int) (h : ∀ z ∈ o, 0 ≤ z) : ∀ z ∈ putR o r, 0 ≤ z := by
  have key : ∀ (l : List Nat) (o : List Int), (∀ z ∈ o, 0 ≤ z) → ∀ z ∈ l.foldl (put1 r) o, 0 ≤ z := by
    intro l
    induction l with
    | nil => exact fun o h => h
    | cons i l ih =>
      intro o h
      rw [List.foldl_cons]
      refine ih _ fun z hz => ?_
      unfold put1 at hz
      rcases List.mem_or_eq_of_mem_set hz with hz | hz
      · exact h z hz
      · omega
  exact key _ o h
theorem swapOf_nonneg (n : Nat) (rs : List (List Nat)) : ∀ z ∈ swapOf n rs, 0 ≤ z := by
  have key : ∀ (rs : List (List Nat)) (o : List Int), (∀ z ∈ o, 0 ≤ z) → ∀ z ∈ rs.foldl putR o, 0 ≤ z := by
    intro rs
    induction rs with
    | nil => exact fun o h => h
    | cons r rs ih => exact fun o h => ih _ (putR_nonneg r o h)
  exact key rs _ (fun z hz => by have := List.eq_of_mem_replicate hz; omega)
/-- the exchange, of wishes that are such -/
structure Swapped (w : List (Bool × List Int)) (x : List Int) : Prop where
  ord : IsOrd x w.length
  good : ∃ D, Good w (hasN x) D ∧ ∀ j, j < w.length → D.getD j false = true
theorem swapped {w : List (Bool × List Int)} (hw : Wish w) : Swapped w (swapOf w.length (ringsOf w)) := by
  obtain ⟨D, hR, hall⟩ := reach_all hw
  have hg := hR.good hw
  have hf := hg.facts hw
  have hl : (swapOf w.length (ringsOf w)).length = w.length := by simp [swapOf, swap_fold_length]
  have hnn := swapOf_nonneg w.length (ringsOf w)
  generalize swapOf w.length (ringsOf w) = x at *
  have hv : ∀ i (h : i < x.length), x[i] = ((hasN x i : Nat) : Int) := fun i h => by
    have := hnn x[i] (List.getElem_mem _)
    rw [hasN, List.getD_eq_getElem?_getD, List.getElem?_eq_getElem h, Option.getD_some]; omega
  refine ⟨⟨hl, fun z hz => ?_, ?_⟩, D, hg, hall⟩
  · obtain ⟨i, hi, rfl⟩ := List.getElem_of_mem hz
    rw [hv i hi]
    have := hf.lt _ (hf.closed i (hall i (by omega)))
    omega
  · rw [List.nodup_iff_pairwise_ne, List.pairwise_iff_getElem]
    intro i j hi hj hij e
    rw [hv i hi, hv j hj] at e
    have := hf.inj i j (hall i (by omega)) (hall j (by omega)) (by omega)
    omega
theorem memFrom_nodup (s n k : Nat) : (memFrom s n k).Nodup := by
  unfold memFrom
  exact (List.nodup_range' (step := 1) (h := by omega)).filter _
/-- no set does better -/
theorem no_better {w : List (Bool × List Int)} (hw : Wish w) {x : List Int} (hx : Swapped w x) (s : Nat) : betterA w x s (memFrom s w.length 0) (List.replicate 8 false) false = false := by
  cases h : betterA w x s (memFrom s w.length 0) (List.replicate 8 false) false with
  | false => rfl
  | true =>
    obtain ⟨a, a1, a2, a3⟩ := better_gives hw _ _ _ (memFrom_nodup s w.length 0) (by simp) h
    obtain ⟨D, hg, hall⟩ := hx.good
    have hm := fun k (h1 : k < w.length) (h2 : inS s k = true) => (mem_memFrom (s := s) (n := w.length) (k := 0) (g := k)).mpr ⟨Nat.zero_le _, h1, h2⟩
    have hsame := core_same hw (x := hasN x) (a := a) (S := inS s) (fun k h1 h2 => by
      obtain ⟨b1, b2, _, b4⟩ := a1 k (hm k h1 h2)
      exact ⟨b1, b2, b4⟩) (fun k z h1 h2 h3 h4 e => a2 k (hm k h1 h3) z (hm z h2 h4) e) hg
    rcases a3 with a3 | ⟨k, hk, a3⟩
    · simp at a3
    · have h1 := mem_memFrom.mp hk
      rw [hsame k (hall k h1.2.1) h1.2.2] at a3
      exact absurd a3 (Nat.lt_irrefl _)
end Go.Proofs.Ytoafhoihigfllaa.E
