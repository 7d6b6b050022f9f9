/-
  The engine, part w: a range over a function: the law. Conditions: none; it is stated of any program and table of its types.
-/
import Derived.Test.YtoafhoihigfllaaEv
namespace Go.Proofs.Ytoafhoihigfllaa.E
open Go Go.RowKit
set_option linter.unusedVariables false

/-- The block l turns, which holds no cells. -/
theorem keeps_put {W : World} {l : Nat} {r : Loop} (hl : W.heap[l]? = some (.loop r)) (o : Obj) : Keeps W (W.putObj l o) := fun b c e fr hb => by
  have hne : b ≠ l := fun e => by subst e; rw [hl] at hb; cases hb
  exact ⟨c, (World.putObj_heap_other hne).trans hb, rfl⟩
/-- The same frame, seen from where it stands; the record of its loop turns. -/
def Base.re (C : Base) (σ : St) (W : World) (μ : Mu) (Fz Fy : Nat → Prop) : Base :=
  { C with B := W.heap.size, w0 := W, Fz0 := Fz, Fy0 := Fy, X := fun b => (∃ s, lk s σ.blk ≠ none ∧ ∃ base, μ s = some (b, base)) ∨ C.M b }
theorem Sim.re {C : Base} {σ : St} {a : Act} {W : World} {μ : Mu} {Fz Fy : Nat → Prop} (h : Sim C σ a W μ Fz Fy) {l : Nat} {r r' : Loop} (hrd : C.rd = some l) (hl : W.heap[l]? = some (.loop r))
    (h1 : ¬ Fy l) (h2 : ∀ s, lk s σ.blk ≠ none → ∀ base, μ s ≠ some (l, base)) (h3 : ¬ C.M l) (h4 : ∀ y, C.yl = some y → y.n1 ≤ l) :
    Sim (C.re σ (W.putObj l (.loop r')) μ Fz Fy) σ a (W.putObj l (.loop r')) μ Fz Fy := by
  have hlt : l < W.heap.size := (Array.getElem?_eq_some_iff.1 hl).1
  have hk := keeps_put hl (.loop r')
  have hsame : ∀ b, b ≠ l → (W.putObj l (.loop r')).heap[b]? = W.heap[b]? := fun b hb => World.putObj_heap_other hb
  have hfix : ∀ b, Fy b → (W.putObj l (.loop r')).heap[b]? = W.heap[b]? := fun b hb => hsame b fun e => h1 (e ▸ hb)
  have hyd : ∀ y, C.yl = some y → μ YN = some (y.l, 0) ∧ y.J σ.tr.length C.M (W.putObj l (.loop r')) ∧ y.n1 ≤ (W.putObj l (.loop r')).heap.size ∧ (∀ b, b < y.n1 → (C.re σ (W.putObj l (.loop r')) μ Fz Fy).X b → C.M b) ∧ ∀ b, C.M b → (C.re σ (W.putObj l (.loop r')) μ Fz Fy).mine b := fun y hy => by
    obtain ⟨y1, y2, y3, y4, y5⟩ := h.yd y hy
    refine ⟨y1, y.stab _ _ _ _ y2 ⟨rfl, rfl, rfl, by simp, hk, fun b hb => hsame b fun e => ?_⟩, by have := h.big; simp; omega, fun b hlt hb => ?_, fun b hb => .inr (.inr hb)⟩
    · subst e
      rcases hb with hb | hb
      · have := h4 y hy; omega
      · exact h3 hb
    · rcases hb with ⟨s, hs, base, hm⟩ | hb
      · rcases (h.live s hs b base hm).1 with k1 | k1
        · omega
        · exact y4 b hlt k1
      · exact hb
  have hlp : ∀ l', C.rd = some l' → l' < (W.putObj l (.loop r')).heap.size ∧ ¬ (C.re σ (W.putObj l (.loop r')) μ Fz Fy).X l' ∧ ∃ r, (W.putObj l (.loop r')).heap[l']? = some (.loop r) := fun l' e => by
    rw [hrd] at e
    simp only [Option.some.injEq] at e; subst e
    refine ⟨by simpa using hlt, fun hx => ?_, r', World.putObj_heap_same hlt⟩
    rcases hx with ⟨s, hs, base, hm⟩ | hb
    · exact h2 s hs base hm
    · exact h3 hb
  refine { defers := fun d hd => ?_, dist := h.dist, size := h.size, small := h.small, env := fun k v hk' => ⟨trivial, ?_⟩, blk := fun t b hb => ?_, live := fun s hs b base hm => ⟨.inr (.inl ⟨s, hs, base, hm⟩), by simpa using (h.live s hs b base hm).2.1, (h.live s hs b base hm).2.2⟩, inj := h.inj, zy := h.zy, yl := fun b hb => by simpa using h.yl b hb, z0 := fun b hb => .inl hb, y0 := fun b hb => .inl hb, below := BelowX.refl _ (Nat.le_refl _), big := Nat.le_refl _, fm := fun b hb => ⟨by simpa using (h.fm b hb).1, (h.fm b hb).2⟩, yd := hyd, lp := hlp, mm := fun b hb => .inr (.inr hb) }
  · obtain ⟨D, e1, e2, e3, e4⟩ := h.defers d hd
    exact ⟨D, e1, e2, (fun e => by have e' : C.rd = none := e; rw [hrd] at e'; cases e'), (hfix D e2).trans e4⟩
  · exact (h.env k v hk').2.mono (fun _ x => x) (fun _ x => x) (fun b x => hfix b (h.zy b x)) hfix hk (fun _ => False) (fun _ _ => .inr ⟨rfl, rfl⟩) (fun _ x => x) (fun _ x => x.elim)
  · exact (h.blk t b hb).mono (fun _ x => x) (fun _ x => x) (fun b x => hfix b (h.zy b x)) hfix hk (fun _ => False) (fun _ _ => .inr ⟨rfl, rfl⟩) (fun _ x => x) rfl (fun b' base hm => hsame b' fun e => h2 t (by simp [hb]) base (e ▸ hm)) (fun _ x => x.elim)
/-- The record of a loop within the frame turns. -/
theorem Sim.putLoop {C : Base} {σ : St} {a : Act} {W : World} {μ : Mu} {Fz Fy : Nat → Prop} (h : Sim C σ a W μ Fz Fy) {l : Nat} {r : Loop} (hl : W.heap[l]? = some (.loop r)) (hb : C.B ≤ l)
    (h1 : ¬ Fy l) (h2 : ∀ s, lk s σ.blk ≠ none → ∀ base, μ s ≠ some (l, base)) (h3 : ¬ C.M l) (o : Obj) : Sim C σ a (W.putObj l o) μ Fz Fy := by
  have hk := keeps_put hl o
  have hsame : ∀ b, b ≠ l → (W.putObj l o).heap[b]? = W.heap[b]? := fun b hb => World.putObj_heap_other hb
  refine h.stays { keeps := hk, fixed := fun b hb => hsame b fun e => h1 (e ▸ hb), own := fun s hs b base hm => hsame b fun e => h2 s hs base (e ▸ hm), below := ?_, size := by simp, rest := fun b hb => hsame b fun e => h3 (e ▸ hb) }
  refine ⟨h.below.os, h.below.tape, h.below.output, by simpa using h.below.size, fun k hk1 hx => (hsame k (by omega)).trans (h.below.block k hk1 hx), fun k c e fr hx hk1 hc => ?_⟩
  obtain ⟨c', e1, e2⟩ := h.below.kept k c e fr hx hk1 hc
  exact ⟨c', (hsame k (by omega)).trans e1, e2⟩
/-- Back in the frame around the round. -/
theorem Sim.back {C Ci : Base} {My M2 : Nat → Prop} {σn τ : St} {a a2 : Act} {W Wd : World} {μn μ2 : Mu} {Fzn Fyn Fz2 Fy2 : Nat → Prop} {l : Nat} (h : Sim (C.withM My) σn a W μn Fzn Fyn) (S : Sim Ci τ a2 Wd μ2 Fz2 Fy2) (eM : Ci.M = M2)
    (own : Nat → Prop) (hown : ∀ b, own b → W.heap.size ≤ b ∨ (∃ s, lk s σn.blk ≠ none ∧ ∃ base, μn s = some (b, base)) ∨ My b)
    (ey : Ci.yl = C.yl) (eo : Ci.out = fun k => C.get a (k - GH)) (hMM : ∀ b, My b → M2 b) (hMo : ∀ b, M2 b → own b)
    (hlive : ∀ s, lk s τ.blk ≠ none → ∀ b base, μ2 s = some (b, base) → own b) (hz : ∀ b, Fz2 b → Fzn b ∨ own b) (hy : ∀ b, Fy2 b → Fyn b ∨ own b)
    (hbl : C.B ≤ l) (hl2 : ¬ Fyn l) (hos : Wd.os = W.os) (htp : Wd.tape = W.tape) (hou : Wd.output = W.output) (hsz : W.heap.size ≤ Wd.heap.size) (hk : Keeps W Wd) (hblk : ∀ b, b < W.heap.size → ¬ own b → b ≠ l → Wd.heap[b]? = W.heap[b]?) :
    Sim (C.withM M2) τ.leave a Wd μ2 Fz2 (fun b => Fy2 b ∨ ∃ d ∈ a.defers, d.target = .collected b) := by
  have hmine : ∀ b, own b → ¬ My b → C.mine b := fun b hb hn => by
    rcases hown b hb with k1 | ⟨s, hs, base, hm⟩ | k1
    · exact .inl (Nat.le_trans h.big k1)
    · exact (h.live s hs b base hm).1
    · exact absurd k1 hn
  have hnf : ∀ b, own b → ¬ Fyn b := fun b hb hf => by
    rcases hown b hb with k1 | ⟨s, hs, base, hm⟩ | k1
    · exact absurd (h.yl b hf) (by omega)
    · exact (h.live s hs b base hm).2.2 hf
    · exact (h.fm b k1).2.1 hf
  have hmk : ∀ b, (∃ d ∈ a.defers, d.target = Target.collected b) → Fyn b := fun b ⟨d, hd, e⟩ => by
    obtain ⟨D, e1, e2, _⟩ := h.defers d hd
    rw [e] at e1
    cases e1; exact e2
  have hfy : ∀ b, Fyn b → Wd.heap[b]? = W.heap[b]? := fun b hb => hblk b (h.yl b hb) (fun ho => hnf b ho hb) fun e => hl2 (e ▸ hb)
  have hSM : ∀ b, M2 b → ¬ Fy2 b := fun b hb => (S.fm b (eM ▸ hb)).2.1
  have hlM : ∀ s, lk s τ.blk ≠ none → ∀ b base, μ2 s = some (b, base) → ¬ M2 b := fun s hs b base hm hM => (S.fm b (eM ▸ hM)).2.2 s hs base hm
  have hbel : BelowX (C.withM M2) Wd := by
    have hB := h.below
    refine ⟨hos.trans hB.os, htp.trans hB.tape, hou.trans hB.output, Nat.le_trans hB.size hsz, fun k hk1 hx => ?_, fun k c e fr hx hk1 hc => ?_⟩
    · refine (hblk k (Nat.lt_of_lt_of_le hk1 h.big) (fun ho => ?_) (by have : (C.withM M2).B = C.B := rfl; omega)).trans (hB.block k hk1 hx)
      by_cases hm : My k
      · rcases h.mm k hm with k1 | k1
        · have : (C.withM My).B = (C.withM M2).B := rfl
          omega
        · exact hx k1
      · rcases hmine k ho hm with k1 | k1
        · have : (C.withM M2).B = C.B := rfl
          omega
        · exact hx k1
    · obtain ⟨c1, e1, e2⟩ := hB.kept k c e fr hx hk1 hc
      obtain ⟨c2, e3, e4⟩ := hk k c1 e fr e1
      exact ⟨c2, e3, e4.trans e2⟩
  have hyd : ∀ y, C.yl = some y → μ2 YN = some (y.l, 0) ∧ y.J τ.tr.length M2 Wd ∧ y.n1 ≤ C.B ∧ (∀ b, b < y.n1 → C.X b → M2 b) ∧ ∀ b, M2 b → C.mine b := fun y hy => by
    obtain ⟨y1, y2, _, _, _⟩ := S.yd y (ey.trans hy)
    obtain ⟨_, _, z3, z4, z5⟩ := h.yd y hy
    refine ⟨y1, eM ▸ y2, z3, fun b hlt hx => hMM b (z4 b hlt hx), fun b hb => ?_⟩
    by_cases hm : My b
    · exact z5 b hm
    · exact hmine b (hMo b hb) hm
  refine { defers := fun d hd => ?_, dist := h.dist, size := h.size, small := h.small, env := fun k v hk' => ⟨trivial, ?_⟩, blk := fun t b hb => ?_, live := fun s hs b base hm => ⟨hmine b (hlive s hs b base hm) fun hM => hlM s hs b base hm (hMM b hM), (S.live s hs b base hm).2.1, ?_⟩, inj := S.inj, zy := fun b hb => .inl (S.zy b hb), yl := fun b hb => ?_, z0 := fun b hb => ?_, y0 := fun b hb => ?_, below := hbel, big := Nat.le_trans h.big hsz, fm := fun b hb => ⟨(S.fm b (eM ▸ hb)).1, ?_, (S.fm b (eM ▸ hb)).2.2⟩, yd := hyd, lp := h.lp, mm := fun b hb => (Classical.em (My b)).elim (fun hm => h.mm b hm) (fun hm => hmine b (hMo b hb) hm) }
  · obtain ⟨D, e1, e2, e3, e4⟩ := h.defers d hd
    exact ⟨D, e1, .inr ⟨d, hd, e1⟩, e3, (hfy D e2).trans e4⟩
  · have hr := (S.env (k + GH) v (lk_dn hk')).2
    rw [show Ci.get a2 (k + GH) = C.get a k from by rw [Base.get, if_neg (by omega), eo]; simp] at hr
    exact hr.mono (fun _ x => x) (fun _ x => .inl x) (fun _ _ => rfl) (fun _ _ => rfl) (Keeps.refl Wd) (fun _ => False) (fun _ _ => .inr ⟨rfl, rfl⟩) (fun _ x => x) (fun _ x => x.elim)
  · exact (S.blk t b hb).mono (fun _ x => x) (fun _ x => .inl x) (fun _ _ => rfl) (fun _ _ => rfl) (Keeps.refl Wd) (fun _ => False) (fun _ _ => .inr ⟨rfl, rfl⟩) (fun _ x => x) rfl (fun _ _ _ => rfl) (fun _ x => x.elim)
  · rintro (hf | hf)
    · exact (S.live s hs b base hm).2.2 hf
    · exact hnf b (hlive s hs b base hm) (hmk b hf)
  · rcases hb with hb | hb
    · exact S.yl b hb
    · exact Nat.lt_of_lt_of_le (h.yl b (hmk b hb)) hsz
  · rcases hz b hb with k1 | k1
    · exact h.z0 b k1
    · exact .inr (hmine b k1 fun hM => hSM b (hMM b hM) (S.zy b hb))
  · rcases hb with hb | hb
    · rcases hy b hb with k1 | k1
      · exact h.y0 b k1
      · exact .inr (hmine b k1 fun hM => hSM b (hMM b hM) hb)
    · exact h.y0 b (hmk b hb)
  · rintro (hf | hf)
    · exact hSM b hb hf
    · exact hnf b (hMo b hb) (hmk b hf)
end Go.Proofs.Ytoafhoihigfllaa.E
