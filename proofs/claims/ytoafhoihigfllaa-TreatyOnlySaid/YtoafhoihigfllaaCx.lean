/-
  The chapter of the treaty: the exchange by the rings in plain words: no set does better; there is no other of its kind; nobody gets more by other wishes. Conditions: none.
-/
import Derived.Test.YtoafhoihigfllaaBx
namespace Go.Proofs.Ytoafhoihigfllaa.E
open Go Go.RowKit
set_option linter.unusedVariables false
set_option linter.unusedSimpArgs false
/-- rings, one after the other, from none on -/
inductive Reach (w : List (Bool × List Int)) : List Bool → List (List Nat) → Prop where
  | nil : Reach w (List.replicate w.length false) []
  | snoc {D : List Bool} {out : List (List Nat)} {k : Nat} {r : List Nat} (h : Reach w D out) (hk : k < w.length) (hd : D.getD k false = false) (hr : RingIs (pt w D) k r) : Reach w (mark D r) (out ++ [r])
theorem mark_getD (r : List Nat) : ∀ (D : List Bool) (y : Nat), (∀ x ∈ r, x < D.length) → (mark D r).getD y false = (D.getD y false || decide (y ∈ r)) := by
  induction r with
  | nil => intro D y _; simp
  | cons x r ih =>
    intro D y h
    rw [mark_cons, ih (D.set x true) y (fun z hz => by rw [List.length_set]; exact h z (List.mem_cons_of_mem _ hz))]
    have hx := h x List.mem_cons_self
    have e : (D.set x true).getD y false = (D.getD y false || decide (y = x)) := by
      rw [List.getD_eq_getElem?_getD, List.getElem?_set, List.getD_eq_getElem?_getD]
      by_cases hy : x = y
      · subst hy; simp [hx]
      · rw [if_neg hy]; simp [Ne.symm hy]
    rw [e, Bool.or_assoc]
    congr 1
    rw [Bool.eq_iff_iff]; simp
theorem Reach.len {w : List (Bool × List Int)} {D : List Bool} {out : List (List Nat)} (h : Reach w D out) : D.length = w.length := by
  induction h with
  | nil => simp
  | snoc h hk hd hr ih => rw [mark_length, ih]
theorem reach_end {w : List (Bool × List Int)} (hw : Wish w) : ∀ (fuel k : Nat) (d : List Bool) (out : List (List Nat)), Rd w fuel k d out → Reach w d out → (∀ j, j < k → d.getD j false = true) → ∃ D, Reach w D (ringsOf w) ∧ ∀ j, j < w.length → D.getD j false = true
  | 0, k, d, out, h, _, _ => by have := h.fuel; omega
  | fuel+1, k, d, out, h, hR, hj => by
    by_cases hk : w.length ≤ k
    · have h1 := h.end hk
      subst h1
      exact ⟨d, hR, fun j hjn => hj j (by omega)⟩
    · cases hd : d.getD k false with
      | true =>
        refine reach_end hw fuel (k + 1) d out (h.next (by omega) hd) hR fun j hjk => ?_
        by_cases e : j = k
        · subst e; exact hd
        · exact hj j (by omega)
      | false =>
        obtain ⟨r, hr⟩ := ring_exists hw d (show k < w.length by omega)
        obtain ⟨_, _, r3, _⟩ := ring_in hw (show k < w.length by omega) hd hr
        refine reach_end hw fuel k _ _ (h.ring hw (by omega) hd hr).1 (.snoc hR (by omega) hd hr) fun j hjk => ?_
        rw [mark_getD r d j (fun x hx => by rw [h.len]; exact (r3 x hx).1), hj j hjk]; rfl
theorem reach_all {w : List (Bool × List Int)} (hw : Wish w) : ∃ D, Reach w D (ringsOf w) ∧ ∀ j, j < w.length → D.getD j false = true :=
  reach_end hw _ _ _ _ (rd_first hw) .nil (fun j h => by omega)
/-- who gets what: within each ring, what one points at -/
inductive Good (w : List (Bool × List Int)) (x : Nat → Nat) : List Bool → Prop where
  | nil : Good w x (List.replicate w.length false)
  | ring {D : List Bool} {k : Nat} {r : List Nat} (h : Good w x D) (hl : D.length = w.length) (hk : k < w.length) (hd : D.getD k false = false) (hr : RingIs (pt w D) k r) (hx : ∀ y ∈ r, x y = pt w D y) : Good w x (mark D r)
theorem Good.agree {w : List (Bool × List Int)} (hw : Wish w) {x x' : Nat → Nat} {D : List Bool} (h : Good w x D) : (∀ y, D.getD y false = true → x' y = x y) → Good w x' D := by
  induction h with
  | nil => exact fun _ => .nil
  | ring h hl hk hd hr hx ih =>
    intro ha
    obtain ⟨_, _, r3, _⟩ := ring_in hw hk hd hr
    have hm := fun y => mark_getD _ _ y (fun x hx => by rw [hl]; exact (r3 x hx).1)
    refine .ring (ih fun y hy => ha y (by rw [hm, hy]; rfl)) hl hk hd hr fun y hy => ?_
    rw [ha y (by rw [hm]; simp [hy]), hx y hy]
/-- what a ring puts -/
theorem fold_put1 (r : List Nat) (hnd : r.Nodup) : ∀ (j : Nat) (o : List Int), j ≤ r.length → (∀ x ∈ r, x < o.length) → ∀ y, y < o.length →
    ((List.range j).foldl (put1 r) o).getD y 0 = if (r.idxOf y < j) then ((r.getD ((r.idxOf y + 1) % r.length) 0 : Nat) : Int) else o.getD y 0 := by
  intro j
  induction j with
  | zero => intro o _ _ y _; simp
  | succ j ih =>
    intro o hj ho y hy
    rw [List.range_succ, List.foldl_append]
    simp only [List.foldl_cons, List.foldl_nil]
    have hl : ((List.range j).foldl (put1 r) o).length = o.length := foldl_put1_length r _ o
    have ih := ih o (by omega) ho y hy
    have hjr : j < r.length := by omega
    have hrj : r.getD j 0 = r[j] := by simp [List.getD_eq_getElem?_getD, List.getElem?_eq_getElem hjr]
    have hidx : r.idxOf r[j] = j := by
      rw [List.idxOf, List.findIdx_eq hjr]
      refine ⟨by simp, fun i hi => ?_⟩
      rw [List.nodup_iff_pairwise_ne, List.pairwise_iff_getElem] at hnd
      simpa using hnd i j (by omega) hjr hi
    generalize (List.range j).foldl (put1 r) o = F at *
    unfold put1
    rw [hrj, List.getD_eq_getElem?_getD, List.getElem?_set]
    by_cases e : r[j] = y
    · rw [if_pos e, if_pos (by rw [hl, e]; exact hy)]
      rw [← e, hidx, if_pos (by omega)]; rfl
    · rw [if_neg e, ← List.getD_eq_getElem?_getD, ih]
      have hne : r.idxOf y ≠ j := fun h => by
        have h2 : r.idxOf y < r.length := by omega
        have := List.getElem_idxOf h2
        exact e (by rw [← this]; congr 1; exact h.symm)
      by_cases h3 : r.idxOf y < j
      · rw [if_pos h3, if_pos (by omega)]
      · rw [if_neg h3, if_neg (by omega)]
theorem putR_get {r : List Nat} (hnd : r.Nodup) {o : List Int} (ho : ∀ x ∈ r, x < o.length) {y : Nat} (hy : y < o.length) : (putR o r).getD y 0 = if y ∈ r then ((r.getD ((r.idxOf y + 1) % r.length) 0 : Nat) : Int) else o.getD y 0 := by
  rw [putR, fold_put1 r hnd _ o (Nat.le_refl _) ho y hy]
  simp only [List.idxOf_lt_length_iff]
/-- who is behind one in a ring -/
theorem ring_next {f : Nat → Nat} {k : Nat} {r : List Nat} (hr : RingIs f k r) (hnd : r.Nodup) {y : Nat} (hy : y ∈ r) : r.getD ((r.idxOf y + 1) % r.length) 0 = f y := by
  obtain ⟨p, m, t, hc, hm, rfl⟩ := hr
  have hcm := cyc_mem hc hm.1
  have hp := hc.pos
  have hlt : (orb f p m).idxOf y < p := by have := List.idxOf_lt_length_of_mem hy; simpa using this
  have hg : (orb f p m)[(orb f p m).idxOf y]'(by simpa using hlt) = y := List.getElem_idxOf _
  rw [orb_get] at hg
  generalize (orb f p m).idxOf y = i at *
  rw [orb_length]
  have hmod : (i + 1) % p < (orb f p m).length := by rw [orb_length]; exact Nat.mod_lt _ hp
  rw [List.getD_eq_getElem?_getD, List.getElem?_eq_getElem hmod, Option.getD_some, orb_get]
  have h1 : f y = itr f (i + 1) m := by rw [← hg]; rfl
  rw [h1]
  by_cases e : i + 1 < p
  · rw [Nat.mod_eq_of_lt e]
  · have : i + 1 = p := by omega
    rw [this, Nat.mod_self, hcm.back]; rfl
theorem Reach.good {w : List (Bool × List Int)} (hw : Wish w) {D : List Bool} {out : List (List Nat)} (h : Reach w D out) : Good w (hasN (swapOf w.length out)) D := by
  induction h with
  | nil => exact .nil
  | @snoc D out k r h hk hd hr ih =>
    obtain ⟨_, _, r3, r4⟩ := ring_in hw hk hd hr
    have hl := h.len
    have ho : (swapOf w.length out).length = w.length := by simp [swapOf, swap_fold_length]
    have hsw : swapOf w.length (out ++ [r]) = putR (swapOf w.length out) r := by rw [swapOf, List.foldl_append]; rfl
    have hget := fun y (hy : y < w.length) => putR_get (o := swapOf w.length out) r4 (fun x hx => by rw [ho]; exact (r3 x hx).1) (y := y) (by rw [ho]; exact hy)
    have hlt : ∀ y, D.getD y false = true → y < w.length := fun y hy => by
      rcases Nat.lt_or_ge y w.length with c | c
      · exact c
      · rw [List.getD_eq_getElem?_getD, List.getElem?_eq_none (by omega)] at hy; simp at hy
    refine .ring (ih.agree hw fun y hy => ?_) hl hk hd hr fun y hy => ?_
    · rw [hasN, hsw, hget y (hlt y hy), if_neg (fun hm => by have := (r3 y hm).2; rw [hy] at this; simp at this)]; rfl
    · rw [hasN, hsw, hget y (r3 y hy).1, if_pos hy, ring_next hr r4 hy, Int.toNat_natCast]
theorem pt_min {w : List (Bool × List Int)} (hw : Wish w) {D : List Bool} {k h : Nat} (hk : k < w.length) (hh : h < w.length) (hd : D.getD h false = false) : plN w k (pt w D k) ≤ plN w k h := by
  obtain ⟨x, hx, hf, _, _, hxp, _⟩ := pt_spec hw hk hh hd
  rw [List.find?_eq_some_iff_getElem] at hf
  obtain ⟨_, i, hi, hix, hn⟩ := hf
  have e := idxOf_row hw hk hi (g := pt w D k) (by rw [hix, hxp])
  rw [e]
  rcases Nat.lt_or_ge (plN w k h) i with c | c
  · have := hn (plN w k h) c
    rw [plN_get hw hk hh, Int.toNat_natCast, hd] at this
    simp at this
  · exact c
theorem ring_closed {f : Nat → Nat} {k : Nat} {r : List Nat} (hr : RingIs f k r) {y : Nat} (hy : y ∈ r) : f y ∈ r := by
  obtain ⟨p, m, t, hc, hm, rfl⟩ := hr
  have hcm := cyc_mem hc hm.1
  have hp := hc.pos
  obtain ⟨j, hj, rfl⟩ := mem_orb.mp hy
  rw [mem_orb]
  by_cases e : j + 1 < p
  · exact ⟨j + 1, e, rfl⟩
  · refine ⟨0, hp, ?_⟩
    have : j + 1 = p := by omega
    show m = itr f (j + 1) m
    rw [this, hcm.back]
theorem ring_inj {f : Nat → Nat} {k : Nat} {r : List Nat} (hr : RingIs f k r) {y z : Nat} (hy : y ∈ r) (hz : z ∈ r) (e : f y = f z) : y = z := by
  obtain ⟨p, m, t, hc, hm, rfl⟩ := hr
  have hcm := cyc_mem hc hm.1
  have hp := hc.pos
  have key : ∀ y, y ∈ orb f p m → itr f (p - 1) (f y) = y := fun y hy => by
    have := (cyc_mem hcm hy).back
    rw [← itr_succ, show p - 1 + 1 = p by omega]; exact this
  rw [← key y hy, ← key z hz, e]
structure Facts (w : List (Bool × List Int)) (x : Nat → Nat) (D : List Bool) : Prop where
  lt : ∀ y, D.getD y false = true → y < w.length
  closed : ∀ y, D.getD y false = true → D.getD (x y) false = true
  inj : ∀ y z, D.getD y false = true → D.getD z false = true → x y = x z → y = z
  own : ∀ y, D.getD y false = true → plN w y (x y) ≤ plN w y y
theorem Good.facts {w : List (Bool × List Int)} (hw : Wish w) {x : Nat → Nat} {D : List Bool} (h : Good w x D) : Facts w x D := by
  induction h with
  | nil =>
    have hno : ∀ y, (List.replicate w.length false).getD y false = false := fun y => by
      rw [List.getD_eq_getElem?_getD, List.getElem?_replicate]; split <;> rfl
    exact ⟨fun y h => by rw [hno] at h; simp at h, fun y h => by rw [hno] at h; simp at h, fun y z h => by rw [hno] at h; simp at h, fun y h => by rw [hno] at h; simp at h⟩
  | @ring D k r h hl hk hd hr hx ih =>
    obtain ⟨_, _, r3, _⟩ := ring_in hw hk hd hr
    have hm := fun y => mark_getD r D y (fun x hx => by rw [hl]; exact (r3 x hx).1)
    have hcase : ∀ y, (mark D r).getD y false = true → D.getD y false = true ∨ y ∈ r := fun y hy => by
      rw [hm] at hy; simpa using hy
    refine ⟨fun y hy => ?_, fun y hy => ?_, fun y z hy hz e => ?_, fun y hy => ?_⟩
    · rcases hcase y hy with h1 | h1
      · exact ih.lt y h1
      · exact (r3 y h1).1
    · rw [hm]
      rcases hcase y hy with h1 | h1
      · rw [ih.closed y h1]; rfl
      · have := ring_closed hr h1
        rw [hx y h1]; simp [this]
    · rcases hcase y hy with h1 | h1
      · rcases hcase z hz with h2 | h2
        · exact ih.inj y z h1 h2 e
        · have a := ih.closed y h1
          rw [e, hx z h2, (r3 _ (ring_closed hr h2)).2] at a
          simp at a
      · rcases hcase z hz with h2 | h2
        · have a := ih.closed z h2
          rw [← e, hx y h1, (r3 _ (ring_closed hr h1)).2] at a
          simp at a
        · rw [hx y h1, hx z h2] at e
          exact ring_inj hr h1 h2 e
    · rcases hcase y hy with h1 | h1
      · exact ih.own y h1
      · rw [hx y h1]
        exact pt_min hw (r3 y h1).1 (r3 y h1).1 (r3 y h1).2
theorem nodup_sub : ∀ (A B : List Nat), A.Nodup → (∀ x ∈ A, x ∈ B) → A.length ≤ B.length
  | [], B, _, _ => Nat.zero_le _
  | x :: A, B, hd, hs => by
    obtain ⟨h1, h2⟩ := List.nodup_cons.mp hd
    have hx := hs x List.mem_cons_self
    have := nodup_sub A (B.erase x) h2 (fun y hy => (List.mem_erase_of_ne (fun (e : y = x) => h1 (e ▸ hy))).mpr (hs y (List.mem_cons_of_mem _ hy)))
    rw [List.length_erase_of_mem hx] at this
    have := List.length_pos_of_mem hx
    simp only [List.length_cons]; omega
/-- a set that does as well for itself does the same -/
theorem core_same {w : List (Bool × List Int)} (hw : Wish w) {x a : Nat → Nat} {S : Nat → Bool} (ha : ∀ k, k < w.length → S k = true → a k < w.length ∧ S (a k) = true ∧ plN w k (a k) ≤ plN w k (x k))
    (hi : ∀ k z, k < w.length → z < w.length → S k = true → S z = true → a k = a z → k = z) {D : List Bool} (h : Good w x D) : ∀ k, D.getD k false = true → S k = true → a k = x k := by
  induction h with
  | nil => exact fun k hk => by rw [List.getD_eq_getElem?_getD, List.getElem?_replicate] at hk; split at hk <;> simp at hk
  | @ring D k0 r h hl hk hd hr hx ih =>
    intro k hkm hS
    obtain ⟨_, _, r3, _⟩ := ring_in hw hk hd hr
    have hf := h.facts hw
    rw [mark_getD r D k (fun x hx => by rw [hl]; exact (r3 x hx).1)] at hkm
    simp only [Bool.or_eq_true, decide_eq_true_eq] at hkm
    rcases hkm with hkD | hkr
    · exact ih k hkD hS
    · obtain ⟨hkn, hkD⟩ := r3 k hkr
      obtain ⟨a1, a2, a3⟩ := ha k hkn hS
      rw [hx k hkr] at a3 ⊢
      cases hDa : D.getD (a k) false with
      | false =>
        have := pt_min hw hkn a1 hDa
        obtain ⟨_, _, _, _, _, hpe, _⟩ := pt_spec hw hkn hkn hkD
        exact plN_inj hw hkn a1 (pt_lt hw D hkn) (by omega)
      | true =>
        exfalso
        let L := (List.range w.length).filter fun y => S y && D.getD y false
        have hL : ∀ y, y ∈ L ↔ y < w.length ∧ S y = true ∧ D.getD y false = true := fun y => by simp [L]
        have hLn : L.Nodup := List.nodup_range.filter _
        have hM : (L.map a).Nodup := by
          rw [List.nodup_iff_pairwise_ne, List.pairwise_map]
          rw [List.nodup_iff_pairwise_ne] at hLn
          refine List.Pairwise.imp_of_mem ?_ hLn
          intro y z hy hz hne e
          have h1 := (hL y).mp hy
          have h2 := (hL z).mp hz
          exact hne (hi y z h1.1 h2.1 h1.2.1 h2.2.1 e)
        have hsub : ∀ z ∈ L.map a, z ∈ L := fun z hz => by
          obtain ⟨y, hy, rfl⟩ := List.mem_map.mp hz
          have h1 := (hL y).mp hy
          obtain ⟨b1, b2, _⟩ := ha y h1.1 h1.2.1
          refine (hL _).mpr ⟨b1, b2, ?_⟩
          rw [ih y h1.2.2 h1.2.1]
          exact hf.closed y h1.2.2
        have hin : a k ∈ L := (hL _).mpr ⟨a1, a2, hDa⟩
        by_cases hmem : a k ∈ L.map a
        · obtain ⟨p, hp, e⟩ := List.mem_map.mp hmem
          have h1 := (hL p).mp hp
          have := hi p k h1.1 hkn h1.2.1 hS e
          rw [this, hkD] at h1
          simp at h1
        · have := nodup_sub (a k :: L.map a) L (List.nodup_cons.mpr ⟨hmem, hM⟩) (fun z hz => by
            rcases List.mem_cons.mp hz with rfl | hz
            · exact hin
            · exact hsub z hz)
          simp only [List.length_cons, List.length_map] at this
          omega
/-- what it takes to do better -/
theorem better_gives {w : List (Bool × List Int)} (hw : Wish w) {x : List Int} {s : Nat} : ∀ (ks : List Nat) (D : List Bool) (b : Bool), ks.Nodup → D.length = 8 → betterA w x s ks D b = true →
    ∃ a : Nat → Nat, (∀ k ∈ ks, a k < w.length ∧ inS s (a k) = true ∧ D.getD (a k) false = false ∧ plN w k (a k) ≤ plN w k (hasN x k)) ∧ (∀ k ∈ ks, ∀ z ∈ ks, a k = a z → k = z) ∧ (b = true ∨ ∃ k ∈ ks, plN w k (a k) < plN w k (hasN x k))
  | [], D, b, _, _, h => ⟨fun _ => 0, by simp, by simp, .inl h⟩
  | k :: ks, D, b, hnd, hD, h => by
    have h8 := hw.few
    obtain ⟨h1, h2⟩ := List.nodup_cons.mp hnd
    rw [betterA, List.any_eq_true] at h
    obtain ⟨g, hg, hc⟩ := h
    simp only [Bool.and_eq_true, Bool.not_eq_true', decide_eq_true_eq] at hc
    obtain ⟨⟨⟨c1, c2⟩, c3⟩, c4⟩ := hc
    have hgn : g < w.length := by simpa using hg
    obtain ⟨a, a1, a2, a3⟩ := better_gives hw ks (D.set g true) _ h2 (by simp [hD]) c4
    have hset : ∀ y, (D.set g true).getD y false = false → y ≠ g ∧ D.getD y false = false := fun y hy => by
      rw [List.getD_eq_getElem?_getD, List.getElem?_set] at hy
      by_cases e : g = y
      · rw [if_pos e, if_pos (by omega)] at hy; simp at hy
      · rw [if_neg e] at hy; exact ⟨fun e2 => e e2.symm, by rw [List.getD_eq_getElem?_getD]; exact hy⟩
    have hne : ∀ z ∈ ks, z ≠ k := fun z hz e => h1 (e ▸ hz)
    refine ⟨fun y => if y = k then g else a y, ?_, ?_, ?_⟩
    · intro z hz
      rcases List.mem_cons.mp hz with rfl | hz
      · simp only [if_true]; exact ⟨hgn, c1, c2, c3⟩
      · simp only [if_neg (hne z hz)]
        obtain ⟨b1, b2, b3, b4⟩ := a1 z hz
        exact ⟨b1, b2, (hset _ b3).2, b4⟩
    · intro y hy z hz e
      rcases List.mem_cons.mp hy with ey | hy2
      · rcases List.mem_cons.mp hz with ez | hz2
        · rw [ey, ez]
        · simp only [if_pos ey, if_neg (hne z hz2)] at e
          exact absurd e.symm (hset _ (a1 z hz2).2.2.1).1
      · rcases List.mem_cons.mp hz with ez | hz2
        · simp only [if_pos ez, if_neg (hne y hy2)] at e
          exact absurd e (hset _ (a1 y hy2).2.2.1).1
        · simp only [if_neg (hne y hy2), if_neg (hne z hz2)] at e
          exact a2 y hy2 z hz2 e
    · rcases a3 with a3 | ⟨z, hz, a3⟩
      · rcases Bool.or_eq_true _ _ ▸ a3 with h3 | h3
        · exact .inl h3
        · exact .inr ⟨k, List.mem_cons_self, by simpa using h3⟩
      · exact .inr ⟨z, List.mem_cons_of_mem _ hz, by simp only [if_neg (hne z hz)]; exact a3⟩
theorem putR_nonneg (r : List Nat) (o : List Int) (h : ∀ z ∈ o, 0 ≤ z) : ∀ z ∈ putR o r, 0 ≤ z := by
  have key : ∀ (l : List Nat) (o : List Int), (∀ z ∈ o, 0 ≤ z) → ∀ z ∈ l.foldl (put1 r) o, 0 ≤ z := by
    intro l
    induction l with
    | nil => exact fun o h => h
    | cons i l ih =>
      intro o h
      rw [List.foldl_cons]
      refine ih _ fun z hz => ?_
      unfold put1 at hz
      rcases List.mem_or_eq_of_mem_set hz with hz | hz
      · exact h z hz
      · omega
  exact key _ o h
theorem swapOf_nonneg (n : Nat) (rs : List (List Nat)) : ∀ z ∈ swapOf n rs, 0 ≤ z := by
  have key : ∀ (rs : List (List Nat)) (o : List Int), (∀ z ∈ o, 0 ≤ z) → ∀ z ∈ rs.foldl putR o, 0 ≤ z := by
    intro rs
    induction rs with
    | nil => exact fun o h => h
    | cons r rs ih => exact fun o h => ih _ (putR_nonneg r o h)
  exact key rs _ (fun z hz => by have := List.eq_of_mem_replicate hz; omega)
/-- the exchange, of wishes that are such -/
structure Swapped (w : List (Bool × List Int)) (x : List Int) : Prop where
  ord : IsOrd x w.length
  good : ∃ D, Good w (hasN x) D ∧ ∀ j, j < w.length → D.getD j false = true
theorem swapped {w : List (Bool × List Int)} (hw : Wish w) : Swapped w (swapOf w.length (ringsOf w)) := by
  obtain ⟨D, hR, hall⟩ := reach_all hw
  have hg := hR.good hw
  have hf := hg.facts hw
  have hl : (swapOf w.length (ringsOf w)).length = w.length := by simp [swapOf, swap_fold_length]
  have hnn := swapOf_nonneg w.length (ringsOf w)
  generalize swapOf w.length (ringsOf w) = x at *
  have hv : ∀ i (h : i < x.length), x[i] = ((hasN x i : Nat) : Int) := fun i h => by
    have := hnn x[i] (List.getElem_mem _)
    rw [hasN, List.getD_eq_getElem?_getD, List.getElem?_eq_getElem h, Option.getD_some]; omega
  refine ⟨⟨hl, fun z hz => ?_, ?_⟩, D, hg, hall⟩
  · obtain ⟨i, hi, rfl⟩ := List.getElem_of_mem hz
    rw [hv i hi]
    have := hf.lt _ (hf.closed i (hall i (by omega)))
    omega
  · rw [List.nodup_iff_pairwise_ne, List.pairwise_iff_getElem]
    intro i j hi hj hij e
    rw [hv i hi, hv j hj] at e
    have := hf.inj i j (hall i (by omega)) (hall j (by omega)) (by omega)
    omega
theorem memFrom_nodup (s n k : Nat) : (memFrom s n k).Nodup := by
  unfold memFrom
  exact (List.nodup_range' (step := 1) (h := by omega)).filter _
/-- no set does better -/
theorem no_better {w : List (Bool × List Int)} (hw : Wish w) {x : List Int} (hx : Swapped w x) (s : Nat) : betterA w x s (memFrom s w.length 0) (List.replicate 8 false) false = false := by
  cases h : betterA w x s (memFrom s w.length 0) (List.replicate 8 false) false with
  | false => rfl
  | true =>
    obtain ⟨a, a1, a2, a3⟩ := better_gives hw _ _ _ (memFrom_nodup s w.length 0) (by simp) h
    obtain ⟨D, hg, hall⟩ := hx.good
    have hm := fun k (h1 : k < w.length) (h2 : inS s k = true) => (mem_memFrom (s := s) (n := w.length) (k := 0) (g := k)).mpr ⟨Nat.zero_le _, h1, h2⟩
    have hsame := core_same hw (x := hasN x) (a := a) (S := inS s) (fun k h1 h2 => by
      obtain ⟨b1, b2, _, b4⟩ := a1 k (hm k h1 h2)
      exact ⟨b1, b2, b4⟩) (fun k z h1 h2 h3 h4 e => a2 k (hm k h1 h3) z (hm z h2 h4) e) hg
    rcases a3 with a3 | ⟨k, hk, a3⟩
    · simp at a3
    · have h1 := mem_memFrom.mp hk
      rw [hsame k (hall k h1.2.1) h1.2.2] at a3
      exact absurd a3 (Nat.lt_irrefl _)
end Go.Proofs.Ytoafhoihigfllaa.E
namespace Go.Proofs.Ytoafhoihigfllaa.E
open Go Go.RowKit
set_option linter.unusedVariables false
set_option linter.unusedSimpArgs false
theorem Facts.surj {w : List (Bool × List Int)} {x : Nat → Nat} {D : List Bool} (h : Facts w x D) {g : Nat} (hg : D.getD g false = true) : ∃ p, D.getD p false = true ∧ x p = g := by
  let L := (List.range w.length).filter fun y => D.getD y false
  have hL : ∀ y, y ∈ L ↔ D.getD y false = true := fun y => by
    simp only [L, List.mem_filter, List.mem_range]
    exact ⟨fun h => h.2, fun h2 => ⟨h.lt y h2, h2⟩⟩
  have hLn : L.Nodup := List.nodup_range.filter _
  have hM : (L.map x).Nodup := by
    rw [List.nodup_iff_pairwise_ne, List.pairwise_map]
    rw [List.nodup_iff_pairwise_ne] at hLn
    refine List.Pairwise.imp_of_mem ?_ hLn
    intro y z hy hz hne e
    exact hne (h.inj y z ((hL y).mp hy) ((hL z).mp hz) e)
  have hsub : ∀ z ∈ L.map x, z ∈ L := fun z hz => by
    obtain ⟨y, hy, rfl⟩ := List.mem_map.mp hz
    exact (hL _).mpr (h.closed y ((hL y).mp hy))
  by_cases hmem : g ∈ L.map x
  · obtain ⟨p, hp, e⟩ := List.mem_map.mp hmem
    exact ⟨p, (hL p).mp hp, e⟩
  · have := nodup_sub (g :: L.map x) L (List.nodup_cons.mpr ⟨hmem, hM⟩) (fun z hz => by
      rcases List.mem_cons.mp hz with rfl | hz
      · exact (hL _).mpr hg
      · exact hsub z hz)
    simp only [List.length_cons, List.length_map] at this
    omega
/-- who is not among some gets nothing of theirs -/
theorem outside {w : List (Bool × List Int)} {x y : Nat → Nat} {D E : List Bool} (hx : Facts w x D) (hy : Facts w y E) (hall : ∀ j, j < w.length → E.getD j false = true) (hsame : ∀ k, D.getD k false = true → y k = x k) {k : Nat} (hk : k < w.length) (hd : D.getD k false = false) : D.getD (y k) false = false := by
  cases h : D.getD (y k) false with
  | false => rfl
  | true =>
    obtain ⟨p, hp, e⟩ := hx.surj h
    have := hy.inj p k (hall p (hx.lt p hp)) (hall k hk) (by rw [hsame p hp, e])
    rw [this, hd] at hp
    simp at hp
theorem ring_from {f : Nat → Nat} {k : Nat} {r : List Nat} (hr : RingIs f k r) {z y : Nat} (hz : z ∈ r) (hy : y ∈ r) : ∃ j, itr f j z = y := by
  obtain ⟨p, m, t, hc, hm, rfl⟩ := hr
  have hcm := cyc_mem hc hm.1
  obtain ⟨i, hi, rfl⟩ := mem_orb.mp hz
  have := (hcm.mem_shift y i).mpr hy
  obtain ⟨j, _, e⟩ := mem_orb.mp this
  exact ⟨j, e⟩
theorem good_unique {w : List (Bool × List Int)} (hw : Wish w) {x y : Nat → Nat} {D E : List Bool} (hx : Good w x D) (hy : Good w y E) (hall : ∀ j, j < w.length → E.getD j false = true) : ∀ k, D.getD k false = true → y k = x k := by
  have hfy := hy.facts hw
  induction hx with
  | nil => exact fun k hk => by rw [List.getD_eq_getElem?_getD, List.getElem?_replicate] at hk; split at hk <;> simp at hk
  | @ring D k0 r h hl hk hd hr hxr ih =>
    have hfx := h.facts hw
    obtain ⟨_, _, r3, _⟩ := ring_in hw hk hd hr
    have hout := fun z (hz : z ∈ r) => outside hfx hfy hall ih (r3 z hz).1 (r3 z hz).2
    have key : ∀ E', Good w y E' → (∀ z ∈ r, E'.getD z false = true → y z = x z) ∧ ((∃ z ∈ r, E'.getD z false = true) → ∀ z ∈ r, E'.getD z false = true) := by
      intro E' hE
      induction hE with
      | nil =>
        have hno : ∀ y, (List.replicate w.length false).getD y false = false := fun y => by
          rw [List.getD_eq_getElem?_getD, List.getElem?_replicate]; split <;> rfl
        exact ⟨fun z _ h => by rw [hno] at h; simp at h, fun ⟨z, _, h⟩ => by rw [hno] at h; simp at h⟩
      | @ring E0 k1 r' h' hl' hk' hd' hr' hyr ih' =>
        obtain ⟨_, _, q3, _⟩ := ring_in hw hk' hd' hr'
        have hm := fun z => mark_getD r' E0 z (fun x hx => by rw [hl']; exact (q3 x hx).1)
        have hstep : ∀ z ∈ r, z ∈ r' → y z = x z ∧ x z ∈ r' := fun z hz hz' => by
          have hnone : ∀ u ∈ r, E0.getD u false = false := fun u hu => by
            cases hu2 : E0.getD u false with
            | false => rfl
            | true =>
              have := ih'.2 ⟨u, hu, hu2⟩ z hz
              rw [(q3 z hz').2] at this
              simp at this
          have hxz := hxr z hz
          have hyz := hyr z hz'
          have hxin : x z ∈ r := by rw [hxz]; exact ring_closed hr hz
          have a := pt_min hw (r3 z hz).1 (r3 _ hxin).1 (hnone _ hxin)
          have hyn : y z < w.length := hfy.lt _ (hfy.closed z (hall z (r3 z hz).1))
          have b := pt_min hw (r3 z hz).1 hyn (hout z hz)
          rw [← hyz] at a
          rw [← hxz] at b
          have e := plN_inj hw (r3 z hz).1 hyn (r3 _ hxin).1 (by omega)
          refine ⟨e, ?_⟩
          rw [← e, hyz]
          exact ring_closed hr' hz'
        have hthrough : ∀ z ∈ r, z ∈ r' → ∀ u ∈ r, u ∈ r' := fun z hz hz' u hu => by
          obtain ⟨j, e⟩ := ring_from hr hz hu
          have hin : ∀ j, itr (pt w D) j z ∈ r ∧ itr (pt w D) j z ∈ r' := by
            intro j
            induction j with
            | zero => exact ⟨hz, hz'⟩
            | succ j ih =>
              have hs := hstep _ ih.1 ih.2
              rw [hxr _ ih.1] at hs
              exact ⟨ring_closed hr ih.1, hs.2⟩
          exact e ▸ (hin j).2
        have hcase : ∀ z, (mark E0 r').getD z false = true → E0.getD z false = true ∨ z ∈ r' := fun z hz => by
          rw [hm] at hz; simpa using hz
        refine ⟨fun z hz hz2 => ?_, fun ⟨z, hz, hz2⟩ u hu => ?_⟩
        · rcases hcase z hz2 with h1 | h1
          · exact ih'.1 z hz h1
          · exact (hstep z hz h1).1
        · rw [hm]
          rcases hcase z hz2 with h1 | h1
          · rw [ih'.2 ⟨z, hz, h1⟩ u hu]; rfl
          · simp [hthrough z hz h1 u hu]
    intro k hkm
    rw [mark_getD r D k (fun x hx => by rw [hl]; exact (r3 x hx).1)] at hkm
    simp only [Bool.or_eq_true, decide_eq_true_eq] at hkm
    rcases hkm with h1 | h1
    · exact ih k h1
    · exact (key E hy).1 k h1 (hall k (r3 k h1).1)
/-- when one is served -/
theorem Good.stage {w : List (Bool × List Int)} (hw : Wish w) {x : Nat → Nat} {D : List Bool} (h : Good w x D) : ∀ k, D.getD k false = true → ∃ D0, Good w x D0 ∧ D0.getD k false = false ∧ k < w.length ∧ x k = pt w D0 k := by
  induction h with
  | nil => exact fun k hk => by rw [List.getD_eq_getElem?_getD, List.getElem?_replicate] at hk; split at hk <;> simp at hk
  | @ring D k0 r h hl hk hd hr hx ih =>
    intro k hkm
    obtain ⟨_, _, r3, _⟩ := ring_in hw hk hd hr
    rw [mark_getD r D k (fun x hx => by rw [hl]; exact (r3 x hx).1)] at hkm
    simp only [Bool.or_eq_true, decide_eq_true_eq] at hkm
    rcases hkm with h1 | h1
    · exact ih k h1
    · exact ⟨D, h, (r3 k h1).2, (r3 k h1).1, hx k h1⟩
theorem rowAt_set {w : List (Bool × List Int)} {k : Nat} {p : Bool × List Int} {j : Nat} : rowAt (w.set k p) j = if k = j ∧ j < w.length then p.2 else rowAt w j := by
  unfold rowAt
  rw [List.getD_eq_getElem?_getD, List.getElem?_set]
  by_cases e : k = j
  · subst e
    rw [if_pos rfl]
    by_cases h : k < w.length
    · rw [if_pos h, if_pos ⟨rfl, h⟩]; rfl
    · rw [if_neg h, if_neg (fun x => h x.2), List.getD_eq_getElem?_getD, List.getElem?_eq_none (by omega)]
  · rw [if_neg e, if_neg (fun x => e x.1), ← List.getD_eq_getElem?_getD]
theorem Wish.set {w : List (Bool × List Int)} (hw : Wish w) {k : Nat} {p : Bool × List Int} (hp : IsOrd p.2 w.length) : Wish (w.set k p) := by
  refine ⟨by rw [List.length_set]; exact hw.few, fun j hj => ?_⟩
  rw [List.length_set] at hj ⊢
  rw [rowAt_set]
  split
  · exact hp
  · exact hw.ord j hj
theorem pt_set {w : List (Bool × List Int)} {k : Nat} {p : Bool × List Int} {D : List Bool} {j : Nat} (h : j ≠ k) : pt (w.set k p) D j = pt w D j := by
  unfold pt
  rw [rowAt_set, if_neg (fun e => h e.1.symm)]
/-- rings without one stay rings, whatever that one wishes -/
theorem Good.without {w : List (Bool × List Int)} (hw : Wish w) {k : Nat} {p : Bool × List Int} (hp : IsOrd p.2 w.length) {x : Nat → Nat} {D : List Bool} (h : Good w x D) : D.getD k false = false → Good (w.set k p) x D := by
  induction h with
  | nil =>
    intro _
    have : (List.replicate w.length false) = List.replicate (w.set k p).length false := by rw [List.length_set]
    rw [this]; exact .nil
  | @ring D k0 r h hl hk hd hr hx ih =>
    intro hkn
    obtain ⟨r1, _, r3, _⟩ := ring_in hw hk hd hr
    rw [mark_getD r D k (fun x hx => by rw [hl]; exact (r3 x hx).1)] at hkn
    simp only [Bool.or_eq_false_iff, decide_eq_false_iff_not] at hkn
    obtain ⟨hkD, hkr⟩ := hkn
    have hne : ∀ z ∈ r, z ≠ k := fun z hz e => hkr (e ▸ hz)
    obtain ⟨q, m, t, hc, hm, hre⟩ := hr
    have hcm := cyc_mem hc hm.1
    have hmr : m ∈ r := by rw [hre]; exact mem_orb.mpr ⟨0, hc.pos, rfl⟩
    have hrr : RingIs (pt w D) k0 r := ⟨q, m, t, hc, hm, hre⟩
    have hin : ∀ j, itr (pt w D) j m ∈ r := by
      intro j
      induction j with
      | zero => exact hmr
      | succ j ih => exact ring_closed hrr ih
    have hit : ∀ j, itr (pt (w.set k p) D) j m = itr (pt w D) j m := by
      intro j
      induction j with
      | zero => rfl
      | succ j ih =>
        show pt (w.set k p) D (itr (pt (w.set k p) D) j m) = pt w D (itr (pt w D) j m)
        rw [ih, pt_set (hne _ (hin j))]
    have horb : orb (pt (w.set k p) D) q m = orb (pt w D) q m := by
      unfold orb
      exact List.map_congr_left fun j _ => hit j
    have hcyc : Cyc (pt (w.set k p) D) q m := ⟨hc.pos, by rw [hit]; exact hcm.back, fun j h1 h2 => by rw [hit]; exact hcm.fresh j h1 h2⟩
    have hring : RingIs (pt (w.set k p) D) m r := by
      refine ⟨q, m, 0, hcyc, ?_, by rw [horb]; exact hre⟩
      show Least m (orb (pt (w.set k p) D) q m)
      rw [horb, ← hre]
      refine ⟨hmr, fun z hz => ?_⟩
      obtain ⟨j, _, e⟩ := mem_orb.mp (hre ▸ hz)
      obtain ⟨i, hi, ei⟩ := mem_orb.mp hm.1
      exact hm.2 z ((hc.mem_shift z i).mp (by rw [ei]; exact hre ▸ hz))
    exact .ring (ih hkD) (by rw [List.length_set]; exact hl) (by rw [List.length_set]; exact (r3 m hmr).1) (r3 m hmr).2 hring (fun z hz => by rw [pt_set (hne z hz)]; exact hx z hz)
/-- nobody gets more by other wishes -/
theorem honest {w : List (Bool × List Int)} (hw : Wish w) {k : Nat} (hk : k < w.length) {p : Bool × List Int} (hp : IsOrd p.2 w.length) {a b : List Int} (ha : Swapped w a) (hb : Swapped (w.set k p) b) : plN w k (hasN a k) ≤ plN w k (hasN b k) := by
  obtain ⟨D, hg, hall⟩ := ha.good
  obtain ⟨E, hgb, hallb⟩ := hb.good
  have hw' := hw.set (k := k) hp
  rw [List.length_set] at hallb
  obtain ⟨D0, h0, hd0, _, hpt⟩ := hg.stage hw k (hall k hk)
  have h0' := h0.without hw hp hd0
  have hall' : ∀ j, j < (w.set k p).length → E.getD j false = true := fun j hj => hallb j (by rw [List.length_set] at hj; exact hj)
  have hsame := good_unique hw' h0' hgb hall'
  have hfb := hgb.facts hw'
  have hout := outside (h0'.facts hw') hfb hall' hsame (k := k) (by rw [List.length_set]; exact hk) hd0
  have hbn : hasN b k < w.length := by
    have := hfb.lt _ (hfb.closed k (hallb k hk))
    rw [List.length_set] at this; exact this
  rw [hpt]
  exact pt_min hw hk hbn hout
end Go.Proofs.Ytoafhoihigfllaa.E
namespace Go.Proofs.Ytoafhoihigfllaa.E
open Go Go.RowKit
set_option linter.unusedVariables false
set_option linter.unusedSimpArgs false
theorem Reach.firsts {w : List (Bool × List Int)} {D : List Bool} {out : List (List Nat)} (h : Reach w D out) : ∀ j, j ≤ out.length → ∃ Dj, Reach w Dj (out.take j) := by
  induction h with
  | nil => exact fun j _ => ⟨_, by rw [List.take_nil]; exact .nil⟩
  | @snoc D out k r h hk hd hr ih =>
    intro j hj
    rcases Nat.lt_or_ge out.length j with c | c
    · have : j = (out ++ [r]).length := by simp at hj ⊢; omega
      rw [this, List.take_length]
      exact ⟨_, .snoc h hk hd hr⟩
    · rw [List.take_append_of_le_length c]
      exact ih j c
theorem Reach.last {w : List (Bool × List Int)} {D : List Bool} {out : List (List Nat)} (h : Reach w D out) : ∀ {rs : List (List Nat)} {r : List Nat}, out = rs ++ [r] → ∃ D0 k, Reach w D0 rs ∧ k < w.length ∧ D0.getD k false = false ∧ RingIs (pt w D0) k r ∧ D = mark D0 r := by
  cases h with
  | nil => intro rs r e; exact absurd e.symm (by simp)
  | @snoc D out k r' h hk hd hr =>
    intro rs r e
    obtain ⟨e1, e2⟩ := List.append_inj' e rfl
    simp only [List.cons.injEq, and_true] at e2
    subst e1 e2
    exact ⟨D, k, h, hk, hd, hr, rfl⟩
theorem Reach.mem {w : List (Bool × List Int)} (hw : Wish w) {D : List Bool} {out : List (List Nat)} (h : Reach w D out) : ∀ y, D.getD y false = true ↔ y ∈ out.flatten := by
  induction h with
  | nil => intro y; rw [List.getD_eq_getElem?_getD, List.getElem?_replicate]; split <;> simp
  | @snoc D out k r h hk hd hr ih =>
    intro y
    obtain ⟨_, _, r3, _⟩ := ring_in hw hk hd hr
    rw [mark_getD r D y (fun x hx => by rw [h.len]; exact (r3 x hx).1)]
    simp only [Bool.or_eq_true, decide_eq_true_eq, List.flatten_append, List.mem_append, ih y, List.flatten_cons, List.flatten_nil, List.append_nil]
/-- each gets what is behind it in its ring -/
theorem swap_next {w : List (Bool × List Int)} (hw : Wish w) {D : List Bool} {out : List (List Nat)} (h : Reach w D out) : ∀ r ∈ out, ∀ y ∈ r, hasN (swapOf w.length out) y = r.getD ((r.idxOf y + 1) % r.length) 0 := by
  induction h with
  | nil => simp
  | @snoc D out k r h hk hd hr ih =>
    obtain ⟨_, _, r3, r4⟩ := ring_in hw hk hd hr
    have ho : (swapOf w.length out).length = w.length := by simp [swapOf, swap_fold_length]
    have hsw : swapOf w.length (out ++ [r]) = putR (swapOf w.length out) r := by rw [swapOf, List.foldl_append]; rfl
    have hget := fun y (hy : y < w.length) => putR_get (o := swapOf w.length out) r4 (fun x hx => by rw [ho]; exact (r3 x hx).1) (y := y) (by rw [ho]; exact hy)
    have hlt : ∀ y, D.getD y false = true → y < w.length := fun y hy => by
      rcases Nat.lt_or_ge y w.length with c | c
      · exact c
      · rw [List.getD_eq_getElem?_getD, List.getElem?_eq_none (by rw [h.len]; omega)] at hy; simp at hy
    intro s hs y hy
    rw [hasN, hsw]
    rcases List.mem_append.mp hs with hs | hs
    · have hyD : D.getD y false = true := (h.mem hw y).mpr (List.mem_flatten.mpr ⟨s, hs, hy⟩)
      rw [hget y (hlt y hyD), if_neg (fun hm => by have := (r3 y hm).2; rw [hyD] at this; simp at this)]
      exact ih s hs y hy
    · simp only [List.mem_singleton] at hs
      subst hs
      rw [hget y (r3 y hy).1, if_pos hy, Int.toNat_natCast]
theorem Reach.good_of {w : List (Bool × List Int)} (hw : Wish w) {x : Nat → Nat} {D : List Bool} {out : List (List Nat)} (h : Reach w D out) : (∀ r ∈ out, ∀ y ∈ r, x y = r.getD ((r.idxOf y + 1) % r.length) 0) → Good w x D := by
  induction h with
  | nil => exact fun _ => .nil
  | @snoc D out k r h hk hd hr ih =>
    intro hx
    obtain ⟨_, _, _, r4⟩ := ring_in hw hk hd hr
    exact .ring (ih fun s hs => hx s (List.mem_append_left _ hs)) h.len hk hd hr (fun y hy => by rw [hx r (by simp) y hy, ring_next hr r4 hy])
/-- bits of a list of numbers -/
def bitsOf (l : List Nat) : Nat := l.foldl (fun b y => b ||| 2 ^ y) 0
theorem bitsOf_snoc (l : List Nat) (y : Nat) : bitsOf (l ++ [y]) = bitsOf l ||| 2 ^ y := by simp [bitsOf]
theorem bitsOf_lt (l : List Nat) (h : ∀ y ∈ l, y < 8) : bitsOf l < 256 := by
  have key : ∀ (l : List Nat) (b : Nat), b < 2 ^ 8 → (∀ y ∈ l, y < 8) → l.foldl (fun b y => b ||| 2 ^ y) b < 2 ^ 8 := by
    intro l
    induction l with
    | nil => exact fun b hb _ => hb
    | cons y l ih => exact fun b hb h => ih _ (Nat.or_lt_two_pow hb (Nat.pow_lt_pow_right (by omega) (h y List.mem_cons_self))) (fun z hz => h z (List.mem_cons_of_mem _ hz))
  exact key l 0 (by decide) h
theorem bitsOf_lt' (n : Nat) (l : List Nat) (h : ∀ y ∈ l, y < n) : bitsOf l < 2 ^ n := by
  have key : ∀ (l : List Nat) (b : Nat), b < 2 ^ n → (∀ y ∈ l, y < n) → l.foldl (fun b y => b ||| 2 ^ y) b < 2 ^ n := by
    intro l
    induction l with
    | nil => exact fun b hb _ => hb
    | cons y l ih => exact fun b hb h => ih _ (Nat.or_lt_two_pow hb (Nat.pow_lt_pow_right (by omega) (h y List.mem_cons_self))) (fun z hz => h z (List.mem_cons_of_mem _ hz))
  exact key l 0 (Nat.two_pow_pos n) h
theorem inS_bitsOf (l : List Nat) (g : Nat) : inS (bitsOf l) g = decide (g ∈ l) := by
  have key : ∀ (l : List Nat) (b : Nat), (l.foldl (fun b y => b ||| 2 ^ y) b).testBit g = (b.testBit g || decide (g ∈ l)) := by
    intro l
    induction l with
    | nil => intro b; simp
    | cons y l ih =>
      intro b
      rw [List.foldl_cons, ih, Nat.testBit_or, Nat.testBit_two_pow, Bool.or_assoc]
      congr 1
      rw [Bool.eq_iff_iff]
      simp only [Bool.or_eq_true, decide_eq_true_eq, List.mem_cons]
      exact or_congr eq_comm Iff.rfl
  rw [inS_testBit, bitsOf, key]
  simp
/-- an assignment does better -/
theorem better_of {w : List (Bool × List Int)} (hw : Wish w) {x : List Int} {s : Nat} {a : Nat → Nat} : ∀ (ks : List Nat) (D : List Bool) (b : Bool), ks.Nodup → D.length = 8 →
    (∀ k ∈ ks, a k < w.length ∧ inS s (a k) = true ∧ D.getD (a k) false = false ∧ plN w k (a k) ≤ plN w k (hasN x k)) → (∀ k ∈ ks, ∀ z ∈ ks, a k = a z → k = z) → (b = true ∨ ∃ k ∈ ks, plN w k (a k) < plN w k (hasN x k)) → betterA w x s ks D b = true
  | [], D, b, _, _, _, _, h => by
    rcases h with h | ⟨k, hk, _⟩
    · exact h
    · simp at hk
  | k :: ks, D, b, hnd, hD, h1, h2, h3 => by
    obtain ⟨n1, n2⟩ := List.nodup_cons.mp hnd
    obtain ⟨c1, c2, c3, c4⟩ := h1 k List.mem_cons_self
    refine betterA_true c1 c2 c3 c4 (better_of hw ks (D.set (a k) true) _ n2 (by simp [hD]) (fun z hz => ?_) (fun y hy z hz => h2 y (List.mem_cons_of_mem _ hy) z (List.mem_cons_of_mem _ hz)) ?_)
    · obtain ⟨d1, d2, d3, d4⟩ := h1 z (List.mem_cons_of_mem _ hz)
      refine ⟨d1, d2, ?_, d4⟩
      rw [List.getD_eq_getElem?_getD, List.getElem?_set, if_neg (fun e => n1 (by rw [h2 k List.mem_cons_self z (List.mem_cons_of_mem _ hz) e]; exact hz)), ← List.getD_eq_getElem?_getD]
      exact d3
    · rcases h3 with h3 | ⟨z, hz, h3⟩
      · exact .inl (by rw [h3]; rfl)
      · rcases List.mem_cons.mp hz with rfl | hz
        · exact .inl (by rw [decide_eq_true h3]; simp)
        · exact .inr ⟨z, hz, h3⟩
theorem hasN_get {x : List Int} {n : Nat} (hx : IsOrd x n) {k : Nat} (hk : k < n) : ∃ h : k < x.length, x[k] = ((hasN x k : Nat) : Int) ∧ hasN x k < n := by
  have h : k < x.length := by rw [hx.len]; exact hk
  have := hx.rng _ (List.getElem_mem h)
  refine ⟨h, ?_⟩
  rw [hasN, List.getD_eq_getElem?_getD, List.getElem?_eq_getElem h, Option.getD_some]
  omega
theorem hasN_inj {x : List Int} {n : Nat} (hx : IsOrd x n) {k z : Nat} (hk : k < n) (hz : z < n) (e : hasN x k = hasN x z) : k = z := by
  obtain ⟨h1, e1, _⟩ := hasN_get hx hk
  obtain ⟨h2, e2, _⟩ := hasN_get hx hz
  exact (List.getElem_inj (h₀ := h1) (h₁ := h2) hx.nd).mp (by rw [e1, e2, e])
/-- the first ring of which one gets another ground does better -/
theorem ring_better {w : List (Bool × List Int)} (hw : Wish w) {x : Nat → Nat} {o : List Int} (ho : IsOrd o w.length) {D : List Bool} {k0 : Nat} {r : List Nat} (hg : Good w x D) (hk : k0 < w.length) (hd : D.getD k0 false = false) (hr : RingIs (pt w D) k0 r) (hx : ∀ y ∈ r, x y = pt w D y)
    (hsame : ∀ k, D.getD k false = true → hasN o k = x k) (hun : ∃ y ∈ r, hasN o y ≠ x y) : betterA w o (bitsOf r) (memFrom (bitsOf r) w.length 0) (List.replicate 8 false) false = true := by
  have hf := hg.facts hw
  obtain ⟨_, _, r3, _⟩ := ring_in hw hk hd hr
  have hm : ∀ k, k ∈ memFrom (bitsOf r) w.length 0 ↔ k ∈ r := fun k => by
    rw [mem_memFrom, inS_bitsOf]
    simp only [decide_eq_true_eq]
    exact ⟨fun h => h.2.2, fun h => ⟨Nat.zero_le _, (r3 k h).1, h⟩⟩
  have hout : ∀ k ∈ r, D.getD (hasN o k) false = false := fun k hk2 => by
    cases h : D.getD (hasN o k) false with
    | false => rfl
    | true =>
      obtain ⟨p, hp, e⟩ := hf.surj h
      have := hasN_inj ho (hf.lt p hp) (r3 k hk2).1 (by rw [hsame p hp, e])
      have h2 := (r3 k hk2).2
      rw [← this, hp] at h2
      simp at h2
  have hle : ∀ k ∈ r, plN w k (x k) ≤ plN w k (hasN o k) := fun k hk2 => by
    rw [hx k hk2]
    exact pt_min hw (r3 k hk2).1 (hasN_get ho (r3 k hk2).1).2.2 (hout k hk2)
  have hxr : ∀ k ∈ r, x k ∈ r := fun k hk2 => by rw [hx k hk2]; exact ring_closed hr hk2
  refine better_of hw (a := x) _ _ _ (memFrom_nodup _ _ _) (by simp) (fun k hk2 => ?_) (fun k hk2 z hz e => ?_) (.inr ?_)
  · have hk3 := (hm k).mp hk2
    refine ⟨(r3 _ (hxr k hk3)).1, by rw [inS_bitsOf]; exact decide_eq_true (hxr k hk3), ?_, hle k hk3⟩
    rw [List.getD_eq_getElem?_getD, List.getElem?_replicate]; split <;> rfl
  · have hk3 := (hm k).mp hk2
    have hz3 := (hm z).mp hz
    rw [hx k hk3, hx z hz3] at e
    exact ring_inj hr hk3 hz3 e
  · obtain ⟨y, hy, hne⟩ := hun
    refine ⟨y, (hm y).mpr hy, ?_⟩
    rcases Nat.lt_or_ge (plN w y (x y)) (plN w y (hasN o y)) with c | c
    · exact c
    · exact absurd (plN_inj hw (r3 y hy).1 (r3 _ (hxr y hy)).1 (hasN_get ho (r3 y hy).1).2.2 (Nat.le_antisymm (hle y hy) c)).symm hne
theorem bits_all {l : List Nat} {n : Nat} (h : ∀ y, y ∈ l ↔ y < n) : bitsOf l = 2 ^ n - 1 := by
  apply Nat.eq_of_testBit_eq
  intro i
  rw [← inS_testBit, inS_bitsOf, Nat.testBit_two_pow_sub_one]
  simp only [h i]
theorem ord_ext {x o : List Int} {n : Nat} (hx : IsOrd x n) (ho : IsOrd o n) (h : ∀ k, k < n → hasN o k = hasN x k) : o = x := by
  apply List.ext_getElem
  · rw [hx.len, ho.len]
  · intro k h1 h2
    have hk : k < n := by rw [ho.len] at h1; exact h1
    obtain ⟨_, e1, _⟩ := hasN_get ho hk
    obtain ⟨_, e2, _⟩ := hasN_get hx hk
    rw [e1, e2, h k hk]
end Go.Proofs.Ytoafhoihigfllaa.E
