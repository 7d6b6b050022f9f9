/-
  The engine, part 3a: the names of a state's blocks are turned. Conditions: none; it is stated of any program.
-/
import Derived.Test.YtoafhoihigfllaaFe
namespace Go.Proofs.Ytoafhoihigfllaa.E
open Go Go.RowKit
set_option linter.unusedVariables false

def mapV (f : Nat → Option Nat) : Nat → V → V
  | 0, _ => .top
  | n + 1, v => match v with
    | .yv => .yv
    | .top => .top
    | .fv ro x => .fv ro x
    | .own s o l => match f s with
      | some t => .own t o l
      | none => .top
    | .ptr s o => match f s with
      | some t => .ptr t o
      | none => .top
    | .pel s i j => match f s with
      | some t => .pel t i j
      | none => .top
    | .map s => match f s with
      | some t => .map t
      | none => .top
    | .agg cs => .agg (cs.map (mapV f n))
    | .tup cs => .tup (cs.map (mapV f n))
    | .fn g a b => .fn g (a.map (mapV f n)) (b.map (mapV f n))
def mapB (f : Nat → Option Nat) : Blk → Blk
  | .box cells => .box (cells.map (mapV f 6))
  | b => b
def mapBlk (f : Nat → Option Nat) (g : Nat → Option Nat) : List (Nat × Blk) → List (Nat × Blk)
  | [] => []
  | (s, b) :: r => match f s with
    | some t => (t, mapB g b) :: mapBlk f g r
    | none => mapBlk f g r
def mapEnv (g : Nat → Option Nat) : List (Nat × V) → List (Nat × V)
  | [] => []
  | (k, v) :: r => (k, mapV g 6 v) :: mapEnv g r
def onLive (σ : St) (f : Nat → Option Nat) (s : Nat) : Option Nat := if pres σ s = true then f s else none
def St.mapN (σ : St) (f : Nat → Option Nat) : St := { σ with env := mapEnv (onLive σ f) σ.env, blk := mapBlk f (onLive σ f) σ.blk }
theorem lk_mapEnv {g : Nat → Option Nat} {k : Nat} : ∀ {l : List (Nat × V)}, lk k (mapEnv g l) = (lk k l).map (mapV g 6)
  | [] => rfl
  | (j, u) :: r => by
    simp only [mapEnv, lk]
    split
    · rfl
    · exact lk_mapEnv
theorem lk_mapBlk {f g : Nat → Option Nat} (hf : ∀ s s' t, f s = some t → f s' = some t → s = s') {s t : Nat} (h : f s = some t) : ∀ {l : List (Nat × Blk)}, lk t (mapBlk f g l) = (lk s l).map (mapB g)
  | [] => rfl
  | (j, b) :: r => by
    simp only [mapBlk, lk]
    split
    · rename_i t' ht'
      simp only [lk]
      by_cases e : s = j
      · subst e
        rw [h] at ht'
        simp only [Option.some.injEq] at ht'
        rw [if_pos ht', if_pos rfl]; rfl
      · rw [if_neg e, if_neg (fun e' : t = t' => e (hf s j t h (by rw [e']; exact ht')))]
        exact lk_mapBlk hf h
    · rename_i hn
      have e : s ≠ j := fun e => by subst e; rw [h] at hn; cases hn
      rw [if_neg e]
      exact lk_mapBlk hf h
theorem lk_mapBlk_some {f g : Nat → Option Nat} (hf : ∀ s s' t, f s = some t → f s' = some t → s = s') {t : Nat} : ∀ {l : List (Nat × Blk)} {b' : Blk}, lk t (mapBlk f g l) = some b' → ∃ s, f s = some t
  | [], _, h => by simp [mapBlk, lk] at h
  | (j, b) :: r, b', h => by
    simp only [mapBlk] at h
    split at h
    · rename_i t' ht'
      simp only [lk] at h
      split at h
      · rename_i e; subst e; exact ⟨j, ht'⟩
      · exact lk_mapBlk_some hf h
    · exact lk_mapBlk_some hf h
section
variable {C : Base} {σ : St} {a : Act} {w : World} {μ : Mu} {Fz Fy : Nat → Prop}
theorem mapV_sound {sh sh' : Mu} {μ' : Mu} {g : Nat → Option Nat} (hY : ∀ l, μ YN = some (l, 0) → μ' YN = some (l, 0)) (hg : ∀ s t, g s = some t → sh' t = sh s ∧ μ' t = μ s ∧ sh s ≠ none) : ∀ (n : Nat) {x : V} {v : Value}, RepV μ sh Fz Fy w x v → RepV μ' sh' Fz Fy w (mapV g n x) v
  | 0, _, _, _ => .top _
  | n + 1, x, v, hv => by
    cases hv with
    | yv l hm => exact .yv l (hY l hm)
    | top => exact .top _
    | fv _ _ _ h => exact .fv _ _ _ h
    | ownx t o l _ h =>
      simp only [mapV]
      split
      · rename_i t' ht; exact absurd h (hg _ _ ht).2.2
      · exact .top _
    | own t o l ad cap sz nn hs hn hc hmm =>
      simp only [mapV]
      split
      · rename_i t' ht
        obtain ⟨e1, e2, _⟩ := hg _ _ ht
        exact .own _ _ _ ad cap sz nn (e1.trans hs) hn hc (hmm.imp id fun ⟨b, base, h1, h2, h3⟩ => ⟨b, base, e2.trans h1, h2, h3⟩)
      · exact .top _
    | ptrx t o _ h =>
      simp only [mapV]
      split
      · rename_i t' ht; exact absurd h (hg _ _ ht).2.2
      · exact .top _
    | ptr t o b base h =>
      simp only [mapV]
      split
      · rename_i t' ht; exact .ptr _ _ b base ((hg _ _ ht).2.1.trans h)
      · exact .top _
    | pelx t i j _ h =>
      simp only [mapV]
      split
      · rename_i t' ht; exact absurd h (hg _ _ ht).2.2
      · exact .top _
    | pel t i j sz nn b base hs hi h =>
      simp only [mapV]
      split
      · rename_i t' ht
        obtain ⟨e1, e2, _⟩ := hg _ _ ht
        exact .pel _ _ _ sz nn b base (e1.trans hs) hi (e2.trans h)
      · exact .top _
    | mapx t _ h =>
      simp only [mapV]
      split
      · rename_i t' ht; exact absurd h (hg _ _ ht).2.2
      · exact .top _
    | map t b base h =>
      simp only [mapV]
      split
      · rename_i t' ht; exact .map _ b base ((hg _ _ ht).2.1.trans h)
      · exact .top _
    | agg cs vs hs hr =>
      refine .agg _ vs (by simp [hs]) fun j y hj => ?_
      simp only [List.getElem?_map, Option.map_eq_some_iff] at hj
      obtain ⟨y', hy', rfl⟩ := hj
      exact mapV_sound hY hg n (hr j y' hy')
    | tup cs vs hs hr =>
      refine .tup _ vs (by simp [hs]) fun j y hj => ?_
      simp only [List.getElem?_map, Option.map_eq_some_iff] at hj
      obtain ⟨y', hy', rfl⟩ := hj
      exact mapV_sound hY hg n (hr j y' hy')
    | fn f as bs vf vc hs hs' hr hr' =>
      refine .fn f _ _ vf vc (by simp [hs]) (by simp [hs']) (fun j y hj => ?_) (fun j y hj => ?_)
      · simp only [List.getElem?_map, Option.map_eq_some_iff] at hj
        obtain ⟨y', hy', rfl⟩ := hj
        exact mapV_sound hY hg n (hr j y' hy')
      · simp only [List.getElem?_map, Option.map_eq_some_iff] at hj
        obtain ⟨y', hy', rfl⟩ := hj
        exact mapV_sound hY hg n (hr' j y' hy')
theorem shp_mapB (g : Nat → Option Nat) (b : Blk) : shp (mapB g b) = shp b := by cases b <;> simp [mapB, shp]
theorem Sim.mapN (h : Sim C σ a w μ Fz Fy) {f : Nat → Option Nat} (hf : ∀ s s' t, f s = some t → f s' = some t → s = s') (hfY : ∀ s, f s ≠ some YN) :
    ∃ μ', Sim C (σ.mapN f) a w μ' Fz Fy ∧ (∀ (n : Nat) (x : V) (v : Value), RepV μ (shs σ) Fz Fy w x v → RepV μ' (shs (σ.mapN f)) Fz Fy w (mapV (onLive σ f) n x) v) ∧ ∀ t, lk t (σ.mapN f).blk ≠ none → ∃ s, lk s σ.blk ≠ none ∧ f s = some t ∧ μ' t = μ s := by
  classical
  obtain ⟨μ', hμ⟩ : ∃ μ' : Mu, μ' = fun t => if t = YN then μ YN else if hx : ∃ s, lk s σ.blk ≠ none ∧ f s = some t then μ hx.choose else none := ⟨_, rfl⟩
  have hμY : μ' YN = μ YN := by rw [hμ]; simp
  have hμs : ∀ s t, lk s σ.blk ≠ none → f s = some t → μ' t = μ s := fun s t hs hft => by
    have hne : t ≠ YN := fun e => hfY s (e ▸ hft)
    have hx : ∃ s, lk s σ.blk ≠ none ∧ f s = some t := ⟨s, hs, hft⟩
    rw [hμ]
    simp only [hne, if_false, hx, dite_true]
    have := hx.choose_spec
    rw [hf _ _ _ this.2 hft]
  have hblk : ∀ s t, f s = some t → lk t (σ.mapN f).blk = (lk s σ.blk).map (mapB (onLive σ f)) := fun s t hft => lk_mapBlk hf hft
  have hwho : ∀ t, lk t (σ.mapN f).blk ≠ none → ∃ s, lk s σ.blk ≠ none ∧ f s = some t ∧ μ' t = μ s := fun t ht => by
    cases hb : lk t (σ.mapN f).blk with
    | none => exact absurd hb ht
    | some b =>
      obtain ⟨s, hs⟩ := lk_mapBlk_some hf hb
      have hs' : lk s σ.blk ≠ none := fun e => by rw [hblk s t hs, e] at hb; cases hb
      exact ⟨s, hs', hs, hμs s t hs' hs⟩
  have hg : ∀ s t, onLive σ f s = some t → shs (σ.mapN f) t = shs σ s ∧ μ' t = μ s ∧ shs σ s ≠ none := fun s t e => by
    unfold onLive at e
    split at e
    · rename_i hp
      have hs : lk s σ.blk ≠ none := fun e' => by simp [pres, e'] at hp
      refine ⟨?_, hμs s t hs e, pres_sh hp⟩
      simp only [shs, hblk s t e, Option.map_map]
      congr 1
      funext b; exact shp_mapB _ b
    · cases e
  have hrep := fun n x v => mapV_sound (Fz := Fz) (Fy := Fy) (w := w) (sh := shs σ) (sh' := shs (σ.mapN f)) (μ := μ) (μ' := μ') (g := onLive σ f) (fun l hl => hμY.trans hl) hg n (x := x) (v := v)
  refine ⟨μ', ?_, hrep, hwho⟩
  refine { h with env := fun k v hk => ⟨trivial, ?_⟩, blk := fun t b hb => ?_, live := fun t ht b base hm => ?_, inj := fun t u ht hu htu b base b' base' hm hm' => ?_, fm := fun b hb => ⟨(h.fm b hb).1, (h.fm b hb).2.1, fun t ht base hm => ?_⟩, yd := fun y hy => ⟨hμY.trans (h.yd y hy).1, (h.yd y hy).2⟩ }
  · simp only [St.mapN, lk_mapEnv, Option.map_eq_some_iff] at hk
    obtain ⟨v', hv', rfl⟩ := hk
    exact hrep 6 _ _ (h.env k v' hv').2
  · obtain ⟨s, hs, hft, hm⟩ := hwho t (by simp [hb])
    rw [hblk s t hft] at hb
    simp only [Option.map_eq_some_iff] at hb
    obtain ⟨b0, hb0, rfl⟩ := hb
    have := h.blk s b0 hb0
    cases this with
    | nil sz => exact .nil sz
    | arr sz xs r base c e hm' hh hc hsz hr => exact .arr sz xs r base c e (hm.trans hm') hh hc hsz hr
    | mp es r c k hm' hh hc hr => exact .mp es r c k (hm.trans hm') hh hc hr
    | box cells r c e hm' hh hc hr =>
      refine .box _ r c e (hm.trans hm') hh (by simpa using hc) fun j y hj => ?_
      simp only [List.getElem?_map, Option.map_eq_some_iff] at hj
      obtain ⟨y', hy', rfl⟩ := hj
      exact hrep 6 _ _ (hr j y' hy')
  · obtain ⟨s, hs, hft, hm'⟩ := hwho t ht
    exact h.live s hs b base (hm' ▸ hm)
  · obtain ⟨s, hs, hft, h1⟩ := hwho t ht
    obtain ⟨s', hs', hft', h2⟩ := hwho u hu
    exact h.inj s s' hs hs' (fun e => htu (by subst e; rw [hft] at hft'; simpa using hft')) b base b' base' (h1 ▸ hm) (h2 ▸ hm')
  · obtain ⟨s, hs, hft, hm'⟩ := hwho t ht
    exact (h.fm b hb).2.2 s hs base (hm' ▸ hm)
end
end Go.Proofs.Ytoafhoihigfllaa.E
