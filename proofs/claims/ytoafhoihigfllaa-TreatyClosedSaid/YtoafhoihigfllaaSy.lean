/-
  The chapter of the treaty: rings and exchange, by the program and by the document, walked. Conditions: none.
-/
import Derived.Test.YtoafhoihigfllaaSx
namespace Go.Proofs.Ytoafhoihigfllaa.E
open Go Go.RowKit
set_option linter.unusedVariables false
set_option linter.unusedSimpArgs false
theorem rnd_ring {f : Nat → Nat} {n k : Nat} (hf : ∀ x, x < n → f x < n) (hk : k < n) : ∀ m i, (orb f i k).Nodup → n + 1 ≤ i + m → Ends f m (orb f i k) (itr f i k) ∧ ∃ a p, Cyc f p (itr f a k) ∧ rnd f m (orb f i k) (itr f i k) = orb f p (itr f a k)
  | 0, i, hd, hi => by
    have h := nodup_short n _ hd (fun x hx => by
      obtain ⟨j, _, e⟩ := mem_orb.mp hx
      exact e ▸ itr_lt hf hk j)
    simp at h
    omega
  | m+1, i, hd, hi => by
    by_cases c : itr f i k ∈ orb f i k
    · refine ⟨.inl c, ?_⟩
      have hlt := List.idxOf_lt_length_of_mem c
      have hg : (orb f i k)[(orb f i k).idxOf (itr f i k)] = itr f i k := List.getElem_idxOf hlt
      rw [orb_get] at hg
      simp only [rnd, if_pos c]
      generalize (orb f i k).idxOf (itr f i k) = a at hg hlt
      simp at hlt
      exact ⟨a, i - a, cyc_of_back hd hlt hg, orb_drop f i a k⟩
    · have ih := rnd_ring hf hk m (i + 1) (orb_nodup_succ hd c) (by omega)
      rw [orb_succ] at ih
      simp only [rnd, if_neg c]
      exact ⟨.inr ih.1, ih.2⟩
theorem minL_nn {r : List Nat} (h : 0 < r.length) : ∃ m : Nat, minL (nn r) = (m : Int) ∧ Least m r := by
  have key : ∀ (s : List Nat) (a : Nat), ∃ m : Nat, (nn s).foldl minI (a : Int) = (m : Int) ∧ Least m (a :: s) := by
    intro s
    induction s with
    | nil => intro a; exact ⟨a, rfl, by simp [Least]⟩
    | cons y s ih =>
      intro a
      have e : minI (a : Int) (y : Int) = ((min a y : Nat) : Int) := by unfold minI; split <;> omega
      obtain ⟨m, h1, h2, h3⟩ := ih (min a y)
      refine ⟨m, by rw [nn, List.map_cons, List.foldl_cons, e]; exact h1, ?_, fun z hz => ?_⟩
      · rcases List.mem_cons.mp h2 with h2 | h2
        · rcases Nat.le_total a y with c | c
          · rw [Nat.min_eq_left c] at h2; exact h2 ▸ List.mem_cons_self
          · rw [Nat.min_eq_right c] at h2; rw [h2]; exact List.mem_cons_of_mem _ List.mem_cons_self
        · exact List.mem_cons_of_mem _ (List.mem_cons_of_mem _ h2)
      · have h4 := h3 (min a y) List.mem_cons_self
        rcases List.mem_cons.mp hz with rfl | hz
        · exact Nat.le_trans h4 (Nat.min_le_left _ _)
        · rcases List.mem_cons.mp hz with rfl | hz
          · exact Nat.le_trans h4 (Nat.min_le_right _ _)
          · exact h3 z (List.mem_cons_of_mem _ hz)
  match r, h with
  | a :: s, _ =>
    obtain ⟨m, h1, h2⟩ := key s a
    exact ⟨m, h1, h2⟩
/-- bools in memory -/
def bV (D : List Bool) : List V := D.map fun b => .fv false (.bool b)
@[simp] theorem bV_length (D : List Bool) : (bV D).length = D.length := by simp [bV]
@[simp] theorem bV_kill (D : List Bool) (ns : List Nat) : List.map (killV ns) (bV D) = bV D := by
  have : (killV ns ∘ fun b : Bool => V.fv false (.bool b)) = fun b => V.fv false (.bool b) := by funext b; exact killV_fv _ _ _
  simp only [bV, List.map_map, this]
@[simp] theorem bV_ren (D : List Bool) (s k n : Nat) : List.map (renV s k (n + 1)) (bV D) = bV D := by
  have : (renV s k (n + 1) ∘ fun b : Bool => V.fv false (.bool b)) = fun b => V.fv false (.bool b) := by funext b; exact renV_fv _ _ _ _ _
  simp only [bV, List.map_map, this]
@[simp] theorem bV_ment (D : List Bool) (s n : Nat) : List.any (bV D) (ment (n + 1) s) = false := by
  rw [List.any_eq_false]
  intro x hx
  simp only [bV, List.mem_map] at hx
  obtain ⟨b, _, rfl⟩ := hx; simp
theorem bV_ments (D : List Bool) (fs : List Nat) : List.any (bV D) (fun v => fs.any fun f => ment 5 f v) = false := by
  rw [List.any_eq_false]
  intro x hx
  simp only [bV, List.mem_map] at hx
  obtain ⟨b, _, rfl⟩ := hx; simp
@[simp] theorem bV_mentAny (D : List Bool) (fs : List Nat) : List.any (bV D) (mentAny fs) = false := bV_ments D fs
@[simp] theorem bV_allF (D : List Bool) : allF (bV D) = some (false, bools D) := by
  induction D with
  | nil => rfl
  | cons b D ih =>
    have : bV (b :: D) = .fv false (.bool b) :: bV D := rfl
    rw [this, allF, ih]; rfl
@[simp] theorem bools_nrm (D : List Bool) (ro : Bool) : List.map (nrm ro) (bools D) = bV D := by
  simp only [bools, bV, List.map_map]
  apply List.map_congr_left
  intro b _
  simp [Function.comp, nrm, flat, flat1]
@[simp] theorem bV_vone (σ : St) (D : List Bool) : (bV D).all (vone σ) = true := by
  rw [List.all_eq_true]
  intro x hx
  simp only [bV, List.mem_map] at hx
  obtain ⟨b, _, rfl⟩ := hx; rfl
theorem bV_fscals : ∀ (D E : List Bool), D.length = E.length → fscals true (bools D) (bools E) = some (decide (D = E))
  | [], [], _ => rfl
  | a :: D, b :: E, h => by
    have ih := bV_fscals D E (by simpa using h)
    have e1 : bools (a :: D) = .bool a :: bools D := rfl
    have e2 : bools (b :: E) = .bool b :: bools E := rfl
    rw [e1, e2, fscals, ih]
    simp only [fscal, if_true, Option.some.injEq]
    rw [Bool.eq_iff_iff]; simp
  | [], _ :: _, h => by simp at h
  | _ :: _, [], h => by simp at h
theorem bV_splice (D : List Bool) (hD : D.length = 8) (a b c d e f g h : V) : splice [a, b, c, d, e, f, g, h] 0 (bV D) = bV D := by
  simp [splice, hD]
theorem bV_take (D : List Bool) (hD : D.length = 8) : List.take 8 (bV D) = bV D := List.take_of_length_le (by simp [hD])
/-- the memory of the wishes in the calculation -/
def vW (r c : Bool) (w : List (Bool × List Int)) (D : List Bool) : List V := .fv r (.sl c 1 (rowsF w)) :: D.map fun b => .fv false (.bool b)
theorem vW_length (r c : Bool) (w : List (Bool × List Int)) (D : List Bool) : (vW r c w D).length = D.length + 1 := by simp [vW]
@[simp] theorem vW_kill (r c : Bool) (w : List (Bool × List Int)) (D : List Bool) (ns : List Nat) : List.map (killV ns) (vW r c w D) = vW r c w D := by
  have : (killV ns ∘ fun b : Bool => V.fv false (.bool b)) = fun b => V.fv false (.bool b) := by funext b; exact killV_fv _ _ _
  simp only [vW, List.map_cons, killV_fv, List.map_map, this]
@[simp] theorem vW_ren (r c : Bool) (w : List (Bool × List Int)) (D : List Bool) (s k n : Nat) : List.map (renV s k (n + 1)) (vW r c w D) = vW r c w D := by
  have : (renV s k (n + 1) ∘ fun b : Bool => V.fv false (.bool b)) = fun b => V.fv false (.bool b) := by funext b; exact renV_fv _ _ _ _ _
  simp only [vW, List.map_cons, renV_fv, List.map_map, this]
@[simp] theorem vW_ment (r c : Bool) (w : List (Bool × List Int)) (D : List Bool) (s n : Nat) : List.any (vW r c w D) (ment (n + 1) s) = false := by
  rw [List.any_eq_false]
  intro x hx
  simp only [vW, List.mem_cons, List.mem_map] at hx
  rcases hx with rfl | ⟨b, _, rfl⟩ <;> simp
theorem vW_ments (r c : Bool) (w : List (Bool × List Int)) (D : List Bool) (fs : List Nat) : List.any (vW r c w D) (fun v => fs.any fun f => ment 5 f v) = false := by
  rw [List.any_eq_false]
  intro x hx
  simp only [vW, List.mem_cons, List.mem_map] at hx
  rcases hx with rfl | ⟨b, _, rfl⟩ <;> simp
@[simp] theorem vW_mentAny (r c : Bool) (w : List (Bool × List Int)) (D : List Bool) (fs : List Nat) : List.any (vW r c w D) (mentAny fs) = false := vW_ments r c w D fs
theorem vW_0 (r c : Bool) (w : List (Bool × List Int)) (D : List Bool) : List.take 1 (vW r c w D) = [.fv r (.sl c 1 (rowsF w))] := by simp [vW]
theorem vW_1 (r c : Bool) (w : List (Bool × List Int)) (D : List Bool) (x : Nat) (hx : x < D.length) : List.take 1 (List.drop (1 + x) (vW r c w D)) = [.fv false (.bool D[x])] := by
  rw [vW, Nat.add_comm, List.drop_succ_cons, List.drop_eq_getElem_cons (by simpa using hx)]
  simp
theorem vW_8 (r c : Bool) (w : List (Bool × List Int)) (D : List Bool) (h : D.length = 8) : List.take 8 (vW r c w D).tail = bV D := by
  rw [vW, List.tail_cons, List.take_of_length_le (by simp [h])]; rfl
theorem vW_set (r c : Bool) (w : List (Bool × List Int)) (D : List Bool) (x : Nat) (hx : x < D.length) : splice (vW r c w D) (1 + x) [.fv false (.bool true)] = vW r c w (D.set x true) := by
  unfold splice vW
  rw [Nat.add_comm 1 x]
  simp only [List.take_succ_cons, List.length_singleton, List.drop_succ_cons, List.map_set, List.cons_append, List.append_assoc]
  congr 1
  rw [List.set_eq_take_append_cons_drop]
  simp [hx]
theorem vW_set' (r c : Bool) (w : List (Bool × List Int)) (D : List Bool) (x : Nat) (hx : x < D.length) : List.take (1 + x) (vW r c w D) ++ .fv false (.bool true) :: List.drop (1 + x + 1) (vW r c w D) = vW r c w (D.set x true) := by
  rw [← vW_set r c w D x hx, splice]
  simp only [List.length_singleton, List.append_assoc, List.cons_append, List.nil_append]
theorem frzL_vW (σ : St) (n : Nat) (r c : Bool) (w : List (Bool × List Int)) (D : List Bool) : frzL (frz σ (n + 1)) (vW r c w D) = some ([], r, cellsW c w D) := by
  have e : ∀ ro x, frz σ (n + 1) (.fv ro x) = some ([], ro, x) := fun _ _ => rfl
  have h : ∀ D : List Bool, frzL (frz σ (n + 1)) (D.map fun b => .fv false (.bool b)) = some ([], false, bools D) := by
    intro D
    induction D with
    | nil => rfl
    | cons b D ih => simp only [List.map_cons, frzL, ih, e]; rfl
  simp only [vW, frzL, h, e, cellsW, List.nil_append, Bool.or_false]
theorem frz_vW {σ : St} {n s : Nat} {r c : Bool} {w : List (Bool × List Int)} {D : List Bool} (h : lk s σ.blk = some (.box (vW r c w D))) : frz σ (n + 2) (.ptr s 0) = some ([s], r, .pt (cellsW c w D) 0) := by
  have h2 := frzL_vW σ n r c w D
  have h1 : frz σ (n + 2) (.ptr s 0) = (match frzL (frz σ (n + 1)) (vW r c w D) with | some (ns, ro, xs) => some (s :: ns, ro, .pt xs 0) | none => none) := by
    rw [frz.eq_def]
    dsimp only
    rw [h]
    cases D <;> rfl
  rw [h1, h2]
end Go.Proofs.Ytoafhoihigfllaa.E
namespace Go.Proofs.Ytoafhoihigfllaa.E
open Go Go.RowKit
set_option linter.unusedVariables false
set_option linter.unusedSimpArgs false
def ringF (r : List Nat) : FV := .sl false 1 (ints (nn r))
def cells0 (r0 c : Bool) (w : List (Bool × List Int)) : List (Bool × FV) := (r0, .sl c 1 (rowsF w)) :: List.replicate 8 (false, .bool false)
def H77a (ctx : Ctx) (w : List (Bool × List Int)) (c : Bool) : Prop := ∀ (D : List Bool) (k : Nat), D.length = 8 → k < w.length → D.getD k false = false → ∀ (r2 r3 r4 : Bool), ctx 77 [(false, .sl true 0 []), (r2, .int .i64 k), (r3, .rb 77 [] [ptP c w D]), (r4, ptP c w D)] = some [.fv (.sl false 1 (ints (nn (rnd (pt w D) 9 [] k))))]
def H79 (ctx : Ctx) : Prop := ∀ (l : List Int), 0 < l.length → l.length < 2^62 → ∀ (ro c : Bool), ctx 79 [(ro, .sl c 1 (ints l))] = some [.fv (.int .i64 (minL l))]
/-- who is in a ring, as the program keeps it: 8 places -/
def full (w : List (Bool × List Int)) (d : List Bool) : List Bool := d ++ List.replicate (8 - w.length) false
theorem full_getD (w : List (Bool × List Int)) (d : List Bool) (x : Nat) : (full w d).getD x false = d.getD x false := by
  unfold full
  rw [List.getD_eq_getElem?_getD, List.getD_eq_getElem?_getD]
  by_cases h : x < d.length
  · rw [List.getElem?_append_left h]
  · rw [List.getElem?_append_right (by omega), List.getElem?_eq_none (l := d) (by omega)]
    by_cases h2 : x - d.length < 8 - w.length
    · rw [List.getElem?_replicate, if_pos h2]; rfl
    · rw [List.getElem?_replicate, if_neg h2]
theorem full_pt (w : List (Bool × List Int)) (d : List Bool) : pt w (full w d) = pt w d := by
  funext k
  simp only [pt, full_getD]
theorem full_set {w : List (Bool × List Int)} {d : List Bool} {x : Nat} (h : x < d.length) : (full w d).set x true = full w (d.set x true) := by
  unfold full; rw [List.set_append_left x true h]
theorem full_length {w : List (Bool × List Int)} {d : List Bool} (hw : Wish w) (h : d.length = w.length) : (full w d).length = 8 := by
  have := hw.few
  simp [full, h]; omega
abbrev X57 := Nat × Nat × List Bool × List (List Nat)
def b57 (r0 c : Bool) (w : List (Bool × List Int)) (d : List Bool) (out : List (List Nat)) : List (Nat × Blk) := [(0, Blk.box (vW r0 c w (full w d))), (3, Blk.arr 1 (out.map ringF)), (4, Blk.box [V.fn (Fn.func 76) [V.ptr 0 0] []])]
/-- the outer loop's state -/
def s57 (r0 c : Bool) (w : List (Bool × List Int)) (x : X57) : St :=
  { env := [(0, V.ptr 0 0), (3, V.own 3 0 x.2.2.2.length), (4, V.ptr 4 0), (18, V.fv false (FV.int IntKind.i64 ↑w.length)), (19, V.fv false (FV.int IntKind.i64 x.2.1))],
    blk := [(0, Blk.box (vW r0 c w (full w x.2.2.1))), (3, Blk.arr 1 (x.2.2.2.map ringF)), (4, Blk.box [V.fn (Fn.func 76) [V.ptr 0 0] []])] }
/-- the inner one's -/
def t57 (r0 c : Bool) (w : List (Bool × List Int)) (x : X57) : St :=
  { env := [(0, V.ptr 0 0), (3, V.own 3 0 x.2.2.2.length), (4, V.ptr 4 0), (5, V.fv false (FV.int IntKind.i64 x.2.1)), (18, V.fv false (FV.int IntKind.i64 ↑w.length)), (19, V.fv false (FV.int IntKind.i64 x.2.1))],
    blk := [(0, Blk.box (vW r0 c w (full w x.2.2.1))), (3, Blk.arr 1 (x.2.2.2.map ringF)), (4, Blk.box [V.fn (Fn.func 76) [V.ptr 0 0] []])] }
theorem v57 (ctx : Ctx) (hC : CtxOk (pgf ctx)) (w : List (Bool × List Int)) (hw : Wish w) (r0 c : Bool) (h77 : H77a ctx w c) (h78 : H78 ctx) (h79 : H79 ctx) :
    ValidB Try.prog 57 (cells0 r0 c w) [] [.us 1 ((ringsOf w).map ringF)] := by
  refine validB_of_ev (G := pgf ctx) (tokf ctx) hC mixed Try.func57 T57 L57 (by simp [Try.ntmps57]) ⟨_, rfl, ?_⟩
  simp only [Try.ntmps57, Try.results57, initStB, initEnv]
  have h8 := hw.few
  have hcells : (cells0 r0 c w).map (fun p => V.fv p.1 p.2) = vW r0 c w (List.replicate 8 false) := rfl
  rw [hcells]
  have v0 := vW_0 r0 c w
  refine ev_seq (ev_reg (by simp; rfl) ?_)  -- region 0
  refine ev_scope ?_
  refine ev_seq (ev_reg (by simp; rfl) ?_)  -- region 1
  refine ev_seq (ev_reg (by simp; rfl) ?_)  -- region 2
  refine ev_seq (ev_label ?_)
  refine ev_seq (ev_seq (ev_reg (by simp [v0, vW_length]; rfl) ?_))  -- region 3
  refine ev_block ?_  -- 0
  refine ev_loop (s57 r0 c w) (fun x => w.length - x.2.1) (fun x => Rd w x.1 x.2.1 x.2.2.1 x.2.2.2) (17, 0, List.replicate w.length false, []) ?_ (rd_first hw) (by simp [R]; omega) (fun x hx => ?_)
  · have : full w (List.replicate w.length false) = List.replicate 8 false := by
      rw [full, List.replicate_append_replicate]
      congr 1; omega
    simp only [s57, this]; rfl
  obtain ⟨fuel, k, d, out⟩ := x
  simp only [s57]
  simp only at hx
  refine ev_seq (ev_reg (by simp; rfl) ?_)  -- region 4
  refine ev_seq (ev_cond rfl (fun hb => ?_) (fun hb => ?_))  -- 20
  · simp at hb
    refine ev_skip ?_
    refine ev_seq (ev_block ?_)  -- 1
    refine ev_seq (ev_reg (by simp; rfl) ?_)  -- region 5
    refine ev_block ?_  -- 2
    refine ev_loop (t57 r0 c w) (fun x => unmet x.2.2.1) (fun x => x.2.1 = k ∧ Rd w x.1 x.2.1 x.2.2.1 x.2.2.2) (fuel, k, d, out) rfl ⟨rfl, hx⟩ (by have := unmet_le d; have := hx.len; simp only [R]; omega) (fun x hy => ?_)
    clear hx
    obtain ⟨fuel, k', d, out⟩ := x
    obtain ⟨rfl, hx⟩ := hy
    simp only [t57]
    simp only at hx
    have hkw : k' < w.length := hb
    clear hb
    have hfl := full_length hw hx.len
    have hw1 : IntKind.i64.wrap ((k' : Int) + 1) = (k' + 1 : Nat) := wrap_nat (n := k' + 1) (by omega)
    have hk8 : (k' : Int) < 8 := by omega
    have hk9 : 1 + k' ≤ 8 := by omega
    have v1 := vW_1 r0 c w (full w d) k' (by omega)
    have hdk : (full w d)[k']'(by omega) = d.getD k' false := by rw [← full_getD w d k', getD_get (by omega)]
    rw [hdk] at v1
    refine ev_block ?_  -- 3
    cases hdv : d.getD k' false with
    | true =>
      rw [hdv] at v1
      refine ev_seq (ev_seq (ev_reg (by simp [v1, vW_length, hfl, hk8, hk9]; rfl) ?_))  -- region 6
      refine ev_cond rfl (fun hb => ?_) (fun hb => by simp at hb)  -- 27
      refine ev_exit ?_  -- 1
      refine ev_reg (by simp [hw1]; rfl) ?_  -- region 21
      exact ⟨(fuel - 1, k' + 1, d, out), rfl, hx.next hkw hdv, by simp only; omega⟩
    | false =>
      rw [hdv] at v1
      refine ev_seq (ev_seq (ev_reg (by simp [v1, vW_length, hfl, hk8, hk9]; rfl) ?_))  -- region 6
      refine ev_cond rfl (fun hb => by simp at hb) (fun hb => ?_)  -- 27
      refine ev_skip ?_
      refine ev_seq (ev_reg (by simp; rfl) ?_)  -- region 7
      refine ev_seq (ev_reg (by simp; rfl) ?_)  -- region 8
      have hpt := full_pt w d
      have e77 := h77 (full w d) k' hfl hkw (by rw [full_getD]; exact hdv)
      rw [hpt] at e77
      have hring := rnd_ring (f := pt w d) (n := w.length) (fun x hx => pt_lt hw d hx) hkw 9 0 (by simp [orb]) (by omega)
      obtain ⟨_, a, p, hcyc, hrnd⟩ := hring
      rw [show orb (pt w d) 0 k' = [] from rfl, show itr (pt w d) 0 k' = k' from rfl] at hrnd
      rw [hrnd] at e77
      simp only [ptP] at e77
      have fr := fun (σ : St) (n : Nat) (s : Nat) (h : lk s σ.blk = some (.box (vW r0 c w (full w d)))) => frz_vW (n := n) h
      refine ev_seq (ev_reg (by simp [↓fr, e77]; rfl) ?_)  -- region 9
      have hp := hcyc.pos
      obtain ⟨m, hmin, hleast⟩ := minL_nn (r := orb (pt w d) p (itr (pt w d) a k')) (by simpa using hp)
      have hturn := ring_turned hcyc hleast.1
      have hri : RingIs (pt w d) k' (orb (pt w d) p m) := ring_doc hcyc hleast
      obtain ⟨r1, r2, r3, _⟩ := ring_in hw hkw hdv hri
      simp only [orb_length] at r1 r2
      have e79 := h79 (nn (orb (pt w d) p (itr (pt w d) a k'))) (by simpa using hp) (by simp; omega)
      rw [hmin] at e79
      have e78 := h78 (nn (orb (pt w d) p (itr (pt w d) a k'))) m (by simp; omega)
      rw [idx_nn, if_pos hleast.1] at e78
      have hs : (orb (pt w d) p (itr (pt w d) a k')).idxOf m < p := by
        have := List.idxOf_lt_length_of_mem hleast.1
        simpa using this
      have hlen0 : (orb (pt w d) p (itr (pt w d) a k')).length = p := by simp
      generalize orb (pt w d) p (itr (pt w d) a k') = ring0 at *
      generalize ring0.idxOf m = s at *
      generalize hr : orb (pt w d) p m = r at *
      have hrl : r.length = p := by rw [← hr]; simp
      have hb1 : (p - s) * 8 ≤ 140737488355328 := by omega
      have hb2 : p * 8 ≤ 140737488355328 := by omega
      have hps : p - s + s = p := by omega
      have ht1 : List.take (p - s) (List.drop s (nn ring0)) = nn (ring0.drop s) := by rw [nn_drop, nn_take_all _ _ (by simp; omega)]
      have ht2 : List.take s (nn ring0) = nn (ring0.take s) := nn_take _ _
      refine ev_seq (ev_reg (by simp [e79, e78]; rfl) ?_)  -- region 10
      refine ev_seq (ev_drw rfl (by kernel_rfl) (by kernel_rfl) (by simp [hlen0, Nat.le_of_lt hs, hb1, hb2, ht1, ht2, hps]; rfl) ?_)  -- region 11
      have v8 := vW_8 r0 c w (full w d) hfl
      have s8 := bV_splice (full w d) hfl
      refine ev_seq (ev_reg (by simp [vW_length, v8, hfl, s8]; rfl) ?_)  -- region 12
      refine ev_seq (ev_seq (ev_reg (by simp; rfl) ?_))  -- region 13
      refine ev_block ?_  -- 4
      have hcat : ints (nn (List.drop s ring0)) ++ ints (nn (List.take s ring0)) = ints (nn r) := by rw [← ints_append, ← nn_append, hturn]
      rw [hcat]
      refine ev_loop (fun i : Nat => ({ env := [(0, V.ptr 0 0), (3, V.own 3 0 out.length), (4, V.ptr 4 0), (5, V.fv false (FV.int IntKind.i64 ↑k')), (7, V.own 7 0 p), (9, V.ptr 9 0), (18, V.fv false (FV.int IntKind.i64 ↑w.length)), (19, V.fv false (FV.int IntKind.i64 ↑k')), (49, V.own 7 0 p), (50, V.fv false (FV.int IntKind.i64 ↑p)), (51, V.fv false (FV.int IntKind.i64 i))], blk := [(0, Blk.box (vW r0 c w (full w (mark d (r.take i))))), (3, Blk.arr 1 (List.map ringF out)), (4, Blk.box [V.fn (Fn.func 76) [V.ptr 0 0] []]), (7, Blk.arr 1 (ints (nn r))), (9, Blk.box (bV (full w d)))] } : St)) (fun i => p - i) (fun i => i ≤ p) 0 rfl (by omega) (by simp only [R]; omega) (fun i hi => ?_)
      refine ev_seq (ev_reg (by simp; rfl) ?_)  -- region 14
      refine ev_seq (ev_cond rfl (fun hb => ?_) (fun hb => ?_))  -- 52
      · simp at hb
        have hir : i < r.length := by omega
        have hxr := r3 r[i] (List.getElem_mem _)
        have hmark : mark d (r.take (i + 1)) = (mark d (r.take i)).set r[i] true := by
          rw [List.take_add_one, List.getElem?_eq_getElem hir, mark_append]; rfl
        have hx8 : ((r[i] : Nat) : Int) < 8 := by omega
        have hx9 : 1 + r[i] ≤ 8 := by omega
        have hl2 : (full w (mark d (r.take i))).length = 8 := full_length hw (by simp [hx.len])
        have vs := vW_set' r0 c w (full w (mark d (r.take i))) r[i] (by omega)
        rw [full_set (by rw [mark_length, hx.len]; exact hxr.1), ← hmark] at vs
        have hw2 : IntKind.i64.wrap ((i : Int) + 1) = (i + 1 : Nat) := wrap_nat (n := i + 1) (by omega)
        generalize hxe : r[i] = x at *
        refine ev_skip ?_
        refine ev_seq (ev_block ?_)  -- 5
        refine ev_seq (ev_reg (by simp [hb, hir, hrl, hxe]; rfl) ?_)  -- region 15
        refine ev_reg (by simp [hx8, hx9, vW_length, hl2, vs]; rfl) ?_  -- region 16
        refine ev_reg (by simp [hw2]; rfl) ?_  -- region 17
        exact ⟨i + 1, by simp, by omega, by omega⟩
      · simp at hb
        have hip : i = p := by omega
        subst hip
        rw [List.take_of_length_le (by omega)]
        obtain ⟨hnext, hless⟩ := hx.ring hw hkw hdv hri
        have hl2 : (full w (mark d r)).length = 8 := full_length hw (by simp [hx.len])
        have v8 := vW_8 r0 c w (full w (mark d r)) hl2
        have t8 := bV_take (full w d) hfl
        have hne : ¬ full w (mark d r) = full w d := fun e => by
          have e2 := congrArg (List.take w.length) e
          rw [full, full, List.take_left' (by simp [hx.len]), List.take_left' hx.len] at e2
          rw [e2] at hless
          exact Nat.lt_irrefl _ hless
        have hq := bV_fscals (full w (mark d r)) (full w d) (by omega)
        simp only [hne, decide_false] at hq
        have ho := hx.some
        have hb24 : (out.length + 1) * 24 ≤ 140737488355328 := by omega
        refine ev_exit ?_  -- 4
        refine ev_seq (ev_seq (ev_drw rfl (by kernel_rfl) (by kernel_rfl) (by simp [vW_length, hl2, v8, hfl, t8, hq]; rfl) ?_))  -- region 18
        refine ev_cond rfl (fun hb => by simp at hb) (fun hb => ?_)  -- 66
        refine ev_skip ?_
        refine ev_reg (by simp [hb24, hrl]; rfl) ?_  -- region 20
        refine ⟨(fuel - 1, k', mark d r, out ++ [r]), ?_, ⟨rfl, hnext⟩, hless⟩
        simp [t57]
        rw [ringF, nn_take_all _ _ (by omega)]
  · simp at hb
    refine ev_exit ?_  -- 0
    refine ev_seq (ev_reg (by simp; rfl) ?_)  -- region 22
    refine ev_ret ?_
    rw [← hx.end hb]
    simp
end Go.Proofs.Ytoafhoihigfllaa.E
namespace Go.Proofs.Ytoafhoihigfllaa.E
open Go Go.RowKit
set_option linter.unusedVariables false
set_option linter.unusedSimpArgs false
theorem v78a (ctx : Ctx) (hC : CtxOk (pg ctx)) (n : Int) (ro r2 : Bool) : Valid Try.prog 78 [(ro, .sl true 0 []), (r2, .int .i64 n)] [.fv (.int .i64 (-1))] := by
  refine valid_of_ev (G := pg ctx) (tok ctx) hC mixed Try.func78 T78 L78 (by simp [Try.ntmps78]) ⟨_, rfl, ?_⟩
  simp only [Try.ntmps78, Try.results78, initSt, initEnv]
  refine ev_seq (ev_reg (by simp; rfl) ?_)  -- region 0
  refine ev_seq (ev_seq (ev_reg (by simp; rfl) ?_))  -- region 1
  refine ev_block ?_  -- 0
  refine ev_loop (fun i : Nat => ({ env := [(0, V.fv ro (FV.sl true 0 [])), (1, V.fv r2 (.int .i64 n)), (7, V.fv false (FV.int .i64 0)), (8, V.fv false (FV.int .i64 0))], blk := [] } : St)) (fun i => 0) (fun i => True) 0 rfl trivial (by simp [R]) (fun i hi => ?_)
  refine ev_seq (ev_reg (by simp; rfl) ?_)  -- region 2
  refine ev_seq (ev_cond rfl (fun hb => by simp at hb) (fun hb => ?_))  -- 9
  refine ev_exit ?_  -- 0
  refine ev_seq (ev_reg (by simp; rfl) ?_)  -- region 7
  refine ev_ret ?_
  simp
theorem v77a (ctx : Ctx) (hC : CtxOk (pgf ctx)) (w : List (Bool × List Int)) (hw : Wish w) (c : Bool) (D : List Bool) (hD : D.length = 8) (h76 : H76 ctx w c D) (h77 : H77 ctx w c D 8) (h78 : ∀ (ro r2 : Bool) (n : Int), ctx 78 [(ro, .sl true 0 []), (r2, .int .i64 n)] = some [.fv (.int .i64 (-1))])
    (x : Nat) (hx : x < w.length) (hd : D.getD x false = false) (r2 r3 r4 : Bool) :
    Valid Try.prog 77 [(false, .sl true 0 []), (r2, .int .i64 x), (r3, .rb 77 [] [ptP c w D]), (r4, ptP c w D)] [.fv (.sl false 1 (ints (nn (rnd (pt w D) 9 [] x))))] := by
  refine valid_of_ev (G := pgf ctx) (tokf ctx) hC mixed Try.func77 T77 L77 (by simp [Try.ntmps77]) ⟨_, rfl, ?_⟩
  simp only [Try.ntmps77, Try.results77, initSt, initEnv]
  have e76 := h76 x hx
  have he := (rnd_ring (f := pt w D) (n := w.length) (fun x hx => pt_lt hw D hx) hx 9 0 (by simp [orb]) (by have := hw.few; omega)).1
  rw [show orb (pt w D) 0 x = [] from rfl, show itr (pt w D) 0 x = x from rfl] at he
  have hr : rnd (pt w D) 9 [] x = rnd (pt w D) 8 [x] (pt w D x) := by simp only [rnd, List.not_mem_nil, if_false, List.nil_append]
  rw [hr]
  obtain ⟨_, _, _, _, _, _, hfree⟩ := pt_spec hw hx hx hd
  have e77 := h77 [x] (pt w D x) (pt_lt hw D hx) hfree (by simp) (he.elim (fun h => by simp at h) id)
  simp only [ptP, nn, List.map_cons, List.map_nil, ints] at e77
  refine ev_seq (ev_reg (by simp; rfl) ?_)  -- region 0
  refine ev_seq (ev_seq (ev_reg (by simp [h78]; rfl) ?_))  -- region 1
  refine ev_seq (ev_reg (by simp; rfl) ?_)  -- region 2
  refine ev_cond rfl (fun hb => by simp at hb) (fun hb => ?_)  -- 12
  refine ev_skip ?_
  refine ev_seq (ev_drw rfl (by kernel_rfl) (by kernel_rfl) (by simp [ptP, e76, e77]; rfl) ?_)  -- region 4
  refine ev_ret ?_
  simp [nn, ints]
/-- the program, with what is said of a function to which a box is handed over -/
noncomputable def pgb (ctx : Ctx) (B : FuncId → List (Bool × FV) → List (Bool × FV) → Option (List TV)) : Pg := { pg ctx with ctxB := B }
section
variable (ctx : Ctx) (B : FuncId → List (Bool × FV) → List (Bool × FV) → Option (List TV))
@[simp] theorem pgb_tbl : (pgb ctx B).tbl = tbl := rfl
@[simp] theorem pgb_ctx : (pgb ctx B).ctx = ctx := rfl
@[simp] theorem pgb_keys : (pgb ctx B).keys = [98] := rfl
@[simp] theorem pgb_inl (k d : Nat) (σ : St) (a : List V) : (pgb ctx B).inl k d σ a = none := rfl
@[simp] theorem pgb_fz (k : Nat) : (pgb ctx B).fz k = false := rfl
@[simp] theorem pgb_yl : (pgb ctx B).yl = none := rfl
@[simp] theorem pgb_eqs : (pgb ctx B).eqs = [(80, (8, true)), (98, (2, false))] := rfl
@[simp] theorem pgb_ctxB : (pgb ctx B).ctxB = B := rfl
theorem tokb : TOk (pgb ctx B) := ⟨(tok ctx).tt, (tok ctx).ee, (tok ctx).kk, (tok ctx).zv⟩
end
theorem okWishes_wish {w : List (Bool × List Int)} (h : okWishes w = true) : Wish w := by
  simp only [okWishes, Bool.and_eq_true, decide_eq_true_eq, List.all_eq_true] at h
  obtain ⟨⟨h1, h2⟩, h3⟩ := h
  refine ⟨by omega, fun k hk => ?_⟩
  rw [rowAt_get hk]
  exact once_iff.mp (h3 _ (List.getElem_mem hk))
/-- what rings come of wishes -/
noncomputable def ringsW (w : List (Bool × List Int)) : List (List Nat) := if okWishes w then ringsOf w else []
def codeW (w : List (Bool × List Int)) : Int := if okWishes w then 0 else 101
def H24 (ctx : Ctx) (w : List (Bool × List Int)) (c : Bool) : Prop := ∀ (ro : Bool), ctx 24 [(ro, .sl c 1 (rowsF w))] = some [.fv (.int .i64 (codeW w))]
theorem v21 (ctx : Ctx) (B : FuncId → List (Bool × FV) → List (Bool × FV) → Option (List TV)) (hC : CtxOk (pgb ctx B)) (w : List (Bool × List Int)) (c : Bool) (h24 : H24 ctx w c)
    (hn : ∀ xs, ctx 57 xs = none) (h57 : okWishes w = true → ∀ r0 : Bool, B 57 (cells0 r0 c w) [] = some [.us 1 ((ringsOf w).map ringF)]) (ro : Bool) :
    Valid Try.prog 21 [(ro, .sl c 1 (rowsF w))] [.us 1 ((ringsW w).map ringF), .fv (.int .i64 (codeW w))] := by
  refine valid_of_ev (G := pgb ctx B) (tokb ctx B) hC mixed Try.func21 T21 L21 (by simp [Try.ntmps21]) ⟨_, rfl, ?_⟩
  simp only [Try.ntmps21, Try.results21, initSt, initEnv]
  unfold ringsW
  unfold H24 at h24
  unfold codeW at *
  cases hok : okWishes w with
  | false =>
    rw [hok] at h24
    simp only [Bool.false_eq_true, if_false] at h24
    refine ev_seq (ev_reg (by simp; rfl) ?_)  -- region 0
    refine ev_seq (ev_seq (ev_reg (by simp [h24]; rfl) ?_))  -- region 1
    refine ev_seq (ev_reg (by simp; rfl) ?_)  -- region 2
    refine ev_cond rfl (fun hb => ?_) (fun hb => by simp at hb)  -- 8
    refine ev_seq (ev_reg (by simp; rfl) ?_)  -- region 3
    refine ev_ret ?_
    simp
  | true =>
    rw [hok] at h24
    simp only [if_true] at h24
    have e57 := h57 hok
    simp only [cells0, List.replicate] at e57
    refine ev_seq (ev_reg (by simp; rfl) ?_)  -- region 0
    refine ev_seq (ev_seq (ev_reg (by simp [h24]; rfl) ?_))  -- region 1
    refine ev_seq (ev_reg (by simp; rfl) ?_)  -- region 2
    refine ev_cond rfl (fun hb => by simp at hb) (fun hb => ?_)  -- 8
    refine ev_skip ?_
    refine ev_seq (ev_reg (by simp [hn, e57]; rfl) ?_)  -- region 4
    refine ev_ret ?_
    simp
end Go.Proofs.Ytoafhoihigfllaa.E
namespace Go.Proofs.Ytoafhoihigfllaa.E
open Go Go.RowKit
set_option linter.unusedVariables false
set_option linter.unusedSimpArgs false
theorem bools_take_all (d : List Bool) (n : Nat) (h : d.length ≤ n) : List.take n (bools d) = bools d := List.take_of_length_le (by simpa using h)
theorem bools_set (d : List Bool) (x : Nat) : (bools d).set x (.bool true) = bools (d.set x true) := by simp [bools, List.map_set]
theorem bools_false (n : Nat) : List.replicate n (FV.bool false) = bools (List.replicate n false) := by simp [bools]
def H58 (ctx : Ctx) (w : List (Bool × List Int)) (c : Bool) : Prop := ∀ (d : List Bool) (k : Nat), d.length = w.length → k < w.length → ∀ (r1 r2 r3 c2 : Bool), ctx 58 [(r1, .sl c 1 (rowsF w)), (r2, .sl c2 1 (bools d)), (r3, .int .i64 k)] = some [.fv (.int .i64 (pt w d k))]
def H25 (ctx : Ctx) (w : List (Bool × List Int)) (c : Bool) : Prop := ∀ (ro : Bool), ctx 25 [(ro, .sl c 1 (rowsF w))] = some [.fv (.int .i64 (codeW w))]
/-- the states of the document's walk: what is the same in all -/
def e22 (ro c : Bool) (w : List (Bool × List Int)) (x : X57) (r : List (Nat × V)) : List (Nat × V) :=
  (0, V.fv ro (FV.sl c 1 (rowsF w))) :: (5, V.own 5 0 w.length) :: (6, V.own 6 0 x.2.2.2.length) :: (7, V.fv false (FV.int IntKind.i64 x.2.1)) :: r
def b22 (x : X57) (r : List (Nat × Blk)) : List (Nat × Blk) := (5, Blk.arr 1 (bools x.2.2.1)) :: (6, Blk.arr 1 (x.2.2.2.map ringF)) :: r
theorem min_cast (a b : Nat) : (if b < a then (b : Int) else (a : Int)) = ((min a b : Nat) : Int) := by
  split
  · rw [Nat.min_eq_right (by omega)]
  · rw [Nat.min_eq_left (by omega)]
theorem least_next {f : Nat → Nat} {z j m : Nat} (h : Least m (orb f j z)) : Least (min m (itr f j z)) (orb f (j + 1) z) := by
  rw [orb_succ]
  refine ⟨?_, fun y hy => ?_⟩
  · rcases Nat.le_total m (itr f j z) with c | c
    · rw [Nat.min_eq_left c]; exact List.mem_append_left _ h.1
    · rw [Nat.min_eq_right c]; simp
  · rcases List.mem_append.mp hy with hy | hy
    · exact Nat.le_trans (Nat.min_le_left _ _) (h.2 y hy)
    · simp at hy; subst hy; exact Nat.min_le_right _ _
theorem v22 (ctx : Ctx) (hC : CtxOk (pg ctx)) (w : List (Bool × List Int)) (c : Bool) (h25 : H25 ctx w c) (h58 : Wish w → H58 ctx w c) (ro : Bool) :
    Valid Try.prog 22 [(ro, .sl c 1 (rowsF w))] [.us 1 ((ringsW w).map ringF), .fv (.int .i64 (codeW w))] := by
  refine valid_of_ev (G := pg ctx) (tok ctx) hC mixed Try.func22 T22 L22 (by simp [Try.ntmps22]) ⟨_, rfl, ?_⟩
  simp only [Try.ntmps22, Try.results22, initSt, initEnv]
  unfold ringsW
  unfold H25 at h25
  unfold codeW at *
  cases hok : okWishes w with
  | false =>
    rw [hok] at h25
    simp only [Bool.false_eq_true, if_false] at h25
    refine ev_seq (ev_reg (by simp; rfl) ?_)  -- region 0
    refine ev_seq (ev_seq (ev_reg (by simp [h25]; rfl) ?_))  -- region 1
    refine ev_seq (ev_reg (by simp; rfl) ?_)  -- region 2
    refine ev_cond rfl (fun hb => ?_) (fun hb => by simp at hb)  -- 18
    refine ev_seq (ev_reg (by simp; rfl) ?_)  -- region 3
    refine ev_ret ?_
    simp
  | true =>
    rw [hok] at h25
    simp only [if_true] at h25
    have hw := okWishes_wish hok
    have h58 := h58 hw
    have h8 := hw.few
    have hbw1 : (w.length : Int) ≤ 281474976710656 := by omega
    have hbw2 : (w.length : Int) ≤ 9223372036854775807 := by omega
    refine ev_seq (ev_reg (by simp; rfl) ?_)  -- region 0
    refine ev_seq (ev_seq (ev_reg (by simp [h25]; rfl) ?_))  -- region 1
    refine ev_seq (ev_reg (by simp; rfl) ?_)  -- region 2
    refine ev_cond rfl (fun hb => by simp at hb) (fun hb => ?_)  -- 18
    refine ev_skip ?_
    refine ev_seq (ev_reg (by simp [hbw1, hbw2, bools_false]; rfl) ?_)  -- region 4
    refine ev_seq (ev_reg (by simp; rfl) ?_)  -- region 5
    refine ev_seq (ev_seq (ev_reg (by simp; rfl) ?_))  -- region 6
    refine ev_block ?_  -- 0
    refine ev_loop (fun x : X57 => ({ env := e22 ro c w x [], blk := b22 x [] } : St)) (fun x => w.length - x.2.1) (fun x => Rd w x.1 x.2.1 x.2.2.1 x.2.2.2) (17, 0, List.replicate w.length false, []) rfl (rd_first hw) (by simp [R]; omega) (fun x hx => ?_)
    obtain ⟨fuel, k, d, out⟩ := x
    simp only [e22, b22]
    simp only at hx
    refine ev_seq (ev_seq (ev_reg (by simp; rfl) ?_))  -- region 7
    refine ev_cond rfl (fun hb => ?_) (fun hb => ?_)  -- 26
    · simp at hb
      refine ev_skip ?_
      refine ev_seq (ev_block ?_)  -- 1
      refine ev_block ?_  -- 2
      refine ev_loop (fun x : X57 × Bool => ({ env := e22 ro c w x.1 (if x.2 then [(26, .fv false (.bool true))] else []), blk := b22 x.1 [] } : St)) (fun x => unmet x.1.2.2.1) (fun x => x.1.2.1 = k ∧ Rd w x.1.1 x.1.2.1 x.1.2.2.1 x.1.2.2.2) ((fuel, k, d, out), true) (by simp [e22, b22, hb]) ⟨rfl, hx⟩ (by have := unmet_le d; have := hx.len; simp only [R]; omega) (fun x hy => ?_)
      clear hx
      obtain ⟨⟨fuel, k', d, out⟩, ex⟩ := x
      obtain ⟨rfl, hx⟩ := hy
      have hkw : k' < w.length := hb
      clear hb
      simp only [e22, b22]
      simp only at hx
      have hdl := hx.len
      have hkd : k' < d.length := by omega
      have hdk : d[k'] = d.getD k' false := (getD_get hkd).symm
      have hw1 : IntKind.i64.wrap ((k' : Int) + 1) = (k' + 1 : Nat) := wrap_nat (n := k' + 1) (by omega)
      have hta := bools_take_all d w.length (by omega)
      cases hdv : d.getD k' false with
      | true =>
        rw [hdv] at hdk
        refine ev_seq (ev_seq (ev_reg (σ' := { env := e22 ro c w (fuel, k', d, out) [(33, .fv false (.bool false))], blk := b22 (fuel, k', d, out) [] }) (by cases ex <;> simp [hkw, hkd, hdk, e22, b22]) ?_))  -- region 9
        simp only [e22, b22]
        refine ev_cond rfl (fun hb => by simp at hb) (fun hb => ?_)  -- 33
        refine ev_exit ?_  -- 2
        refine ev_reg (by simp [hw1]; rfl) ?_  -- region 8
        exact ⟨(fuel - 1, k' + 1, d, out), by simp [e22, b22], hx.next hkw hdv, by simp only; omega⟩
      | false =>
        rw [hdv] at hdk
        have e58 := fun (x : Nat) (hx : x < w.length) => h58 d x hdl hx
        obtain ⟨f, hf⟩ : ∃ f, f = pt w d := ⟨_, rfl⟩
        have hflt : ∀ x, x < w.length → f x < w.length := fun x hx => hf ▸ pt_lt hw d hx
        rw [← hf] at e58
        refine ev_seq (ev_seq (ev_reg (σ' := { env := e22 ro c w (fuel, k', d, out) [(33, .fv false (.bool true))], blk := b22 (fuel, k', d, out) [] }) (by cases ex <;> simp [hkw, hkd, hdk, e22, b22]) ?_))  -- region 9
        simp only [e22, b22]
        refine ev_cond rfl (fun hb => ?_) (fun hb => by simp at hb)  -- 33
        refine ev_skip ?_
        refine ev_block ?_  -- 3
        refine ev_seq (ev_reg (by simp; rfl) ?_)  -- region 10
        refine ev_seq (ev_seq (ev_reg (by simp; rfl) ?_))  -- region 11
        refine ev_block ?_  -- 4
        refine ev_loop (fun i : Nat => ({ env := e22 ro c w (fuel, k', d, out) [(8, V.fv false (.int .i64 (itr f i k'))), (9, V.fv false (.int .i64 i))], blk := b22 (fuel, k', d, out) [] } : St)) (fun i => w.length - i) (fun i => i ≤ w.length) 0 rfl (by simp) (by simp [R]; omega) (fun i hi => ?_)
        simp only [e22, b22]
        refine ev_seq (ev_seq (ev_reg (by simp; rfl) ?_))  -- region 12
        refine ev_cond rfl (fun hb => ?_) (fun hb => ?_)  -- 38
        · simp at hb
          have hw2 : IntKind.i64.wrap ((i : Int) + 1) = (i + 1 : Nat) := wrap_nat (n := i + 1) (by omega)
          have e1 := e58 (itr f i k') (itr_lt hflt hkw i)
          refine ev_skip ?_
          refine ev_seq (ev_block ?_)  -- 5
          refine ev_reg (by simp [hta, e1]; rfl) ?_  -- region 14
          refine ev_reg (by simp [hw2]; rfl) ?_  -- region 13
          exact ⟨i + 1, by simp [e22, b22, itr], hb, by omega⟩
        · simp at hb
          have hin : i = w.length := by omega
          subst hin
          obtain ⟨a, p, hap, hcyc0⟩ := cyc_exists hflt hkw
          have hcyc := hcyc0.shift (w.length - a)
          rw [← itr_add, show w.length - a + a = w.length by omega] at hcyc
          have hz := itr_lt hflt hkw w.length
          generalize hze : itr f w.length k' = z at *
          have hp := hcyc.pos
          have e1 := e58 z hz
          refine ev_exit ?_  -- 4
          refine ev_seq (ev_reg (by simp; rfl) ?_)  -- region 15
          refine ev_seq (ev_seq (ev_reg (by simp [hta, e1]; rfl) ?_))  -- region 16
          refine ev_block ?_  -- 6
          refine ev_loop (fun y : Nat × Nat => ({ env := e22 ro c w (fuel, k', d, out) [(8, V.fv false (.int .i64 z)), (10, V.fv false (.int .i64 y.2)), (11, V.fv false (.int .i64 (itr f y.1 z)))], blk := b22 (fuel, k', d, out) [] } : St)) (fun y => p - y.1) (fun y => 1 ≤ y.1 ∧ y.1 ≤ p ∧ Least y.2 (orb f y.1 z)) (1, z) rfl ⟨by simp, by simp only; omega, by simp [orb, Least, itr]⟩ (by simp [R]; omega) (fun y hy => ?_)
          obtain ⟨j, m⟩ := y
          obtain ⟨hj1, hjp, hm⟩ := hy
          simp only at hj1 hjp hm
          simp only [e22, b22]
          refine ev_seq (ev_seq (ev_reg (by simp; rfl) ?_))  -- region 17
          refine ev_cond rfl (fun hb => ?_) (fun hb => ?_)  -- 52
          · simp at hb
            have hjl : j < p := by
              rcases Nat.lt_or_ge j p with h | h
              · exact h
              · have : j = p := by omega
                subst this
                exact absurd hcyc.back (fun e => hb (by rw [e]))
            have e2 := e58 (itr f j z) (itr_lt hflt hz j)
            have hmc := min_cast m (itr f j z)
            refine ev_skip ?_
            refine ev_seq (ev_block ?_)  -- 7
            refine ev_reg (by simp; rfl) ?_  -- region 19
            refine ev_reg (by simp [hta, e2]; rfl) ?_  -- region 18
            refine ⟨(j + 1, min m (itr f j z)), ?_, ⟨by simp only; omega, by simp only; omega, least_next hm⟩, by simp only; omega⟩
            simp [e22, b22, itr, hmc]
          · simp at hb
            have hjl : j = p := by
              rcases Nat.lt_or_ge j p with h | h
              · exact absurd (by omega) (hcyc.fresh j (by omega) h)
              · omega
            subst hjl
            have hri := ring_doc (k := k') (t := w.length) (by rw [hze]; exact hcyc) (by rw [hze]; exact hm)
            have hcm := cyc_mem hcyc hm.1
            have hml : m < w.length := by
              obtain ⟨i, _, e⟩ := mem_orb.mp hm.1
              exact e ▸ itr_lt hflt hz i
            rw [hf] at hri
            obtain ⟨r1, r2, r3, _⟩ := ring_in hw hkw hdv hri
            obtain ⟨hnext, hless⟩ := hx.ring hw hkw hdv hri
            simp only [orb_length] at r1 r2
            have e3 := e58 m hml
            clear hm
            refine ev_exit ?_  -- 6
            refine ev_seq (ev_reg (by simp; rfl) ?_)  -- region 20
            refine ev_seq (ev_seq (ev_reg (by simp [hta, e3]; rfl) ?_))  -- region 21
            refine ev_block ?_  -- 8
            refine ev_loop (fun i : Nat => ({ env := e22 ro c w (fuel, k', d, out) [(10, V.fv false (.int .i64 m)), (12, V.own 12 0 i), (13, V.fv false (.int .i64 (itr f i m)))], blk := b22 (fuel, k', d, out) [(12, Blk.arr 1 (ints (nn (orb f i m))))] } : St)) (fun i => j - i) (fun i => 1 ≤ i ∧ i ≤ j) 1 rfl ⟨by simp, by omega⟩ (by simp [R]; omega) (fun i hi => ?_)
            obtain ⟨hi1, hij⟩ := hi
            simp only [e22, b22]
            refine ev_seq (ev_seq (ev_reg (by simp; rfl) ?_))  -- region 22
            refine ev_cond rfl (fun hb5 => ?_) (fun hb5 => ?_)  -- 68
            · simp at hb5
              have hil : i < j := by
                rcases Nat.lt_or_ge i j with h | h
                · exact h
                · have e : i = j := by omega
                  rw [e, hcm.back] at hb5
                  exact absurd rfl hb5
              have e4 := e58 (itr f i m) (itr_lt hflt hml i)
              have hb8 : (i + 1) * 8 ≤ 140737488355328 := by omega
              refine ev_skip ?_
              refine ev_seq (ev_block ?_)  -- 9
              refine ev_reg (by simp [hb8]; rfl) ?_  -- region 24
              refine ev_reg (by simp [hta, e4]; rfl) ?_  -- region 23
              refine ⟨i + 1, ?_, ⟨by omega, by omega⟩, by omega⟩
              simp [e22, b22, itr, orb_succ, nn_append]
              simp [nn, ints]
            · simp at hb5
              have hil : i = j := by
                rcases Nat.lt_or_ge i j with h | h
                · exact absurd (by omega) (hcm.fresh i (by omega) h)
                · omega
              subst hil
              rw [hf]
              have hrl : (orb (pt w d) i m).length = i := by simp
              generalize orb (pt w d) i m = r at *
              refine ev_exit ?_  -- 8
              refine ev_seq (ev_seq (ev_reg (by simp; rfl) ?_))  -- region 25
              refine ev_block ?_  -- 10
              refine ev_loop (fun q : Nat => ({ env := e22 ro c w (fuel, k', mark d (r.take q), out) [(12, V.own 12 0 i), (14, V.fv false (.int .i64 q))], blk := b22 (fuel, k', mark d (r.take q), out) [(12, Blk.arr 1 (ints (nn r)))] } : St)) (fun q => i - q) (fun q => q ≤ i) 0 rfl (by omega) (by simp [R]; omega) (fun q hq => ?_)
              simp only [e22, b22]
              refine ev_seq (ev_seq (ev_reg (by simp; rfl) ?_))  -- region 26
              refine ev_cond rfl (fun hb => ?_) (fun hb => ?_)  -- 80
              · simp at hb
                have hqr : q < r.length := by omega
                have hxr := r3 r[q] (List.getElem_mem _)
                have hmark : mark d (r.take (q + 1)) = (mark d (r.take q)).set r[q] true := by
                  rw [List.take_add_one, List.getElem?_eq_getElem hqr, mark_append]; rfl
                have hw2 : IntKind.i64.wrap ((q : Int) + 1) = (q + 1 : Nat) := wrap_nat (n := q + 1) (by omega)
                have hml2 : (mark d (r.take q)).length = w.length := by rw [mark_length, hdl]
                have hx5 := hxr.1
                have hx6 : r[q] < (mark d (r.take q)).length := by omega
                have hset := bools_set (mark d (r.take q)) r[q]
                rw [← hmark] at hset
                generalize hxe : r[q] = x at *
                obtain ⟨mx, hmx⟩ : ∃ mx, (mark d (r.take q))[x]? = some mx := ⟨_, List.getElem?_eq_getElem hx6⟩
                refine ev_skip ?_
                refine ev_seq (ev_block ?_)  -- 11
                refine ev_reg (by simp [hb, hqr, hxe, hx5, hmx, hset]; rfl) ?_  -- region 28
                refine ev_reg (by simp [hw2]; rfl) ?_  -- region 27
                exact ⟨q + 1, by simp [e22, b22], by omega, by omega⟩
              · simp at hb
                have hqi : q = i := by omega
                subst hqi
                rw [List.take_of_length_le (by omega)]
                have ho := hx.some
                have hb24 : (out.length + 1) * 24 ≤ 140737488355328 := by omega
                refine ev_exit ?_  -- 10
                have htk := nn_take_all r q (by omega)
                refine ev_reg (by simp [hb24, hrl, htk]; rfl) ?_  -- region 29
                refine ⟨((fuel - 1, k', mark d r, out ++ [r]), false), ?_, ⟨rfl, hnext⟩, hless⟩
                simp [e22, b22, ringF]
    · simp at hb
      refine ev_exit ?_  -- 0
      refine ev_seq (ev_reg (by simp; rfl) ?_)  -- region 30
      refine ev_ret ?_
      rw [← hx.end hb]
      simp
end Go.Proofs.Ytoafhoihigfllaa.E
namespace Go.Proofs.Ytoafhoihigfllaa.E
open Go Go.RowKit
set_option linter.unusedVariables false
set_option linter.unusedSimpArgs false
theorem least_exists {r : List Nat} (h : 0 < r.length) : ∃ m, Least m r := by
  obtain ⟨m, _, h2⟩ := minL_nn h
  exact ⟨m, h2⟩
theorem ring_exists {w : List (Bool × List Int)} (hw : Wish w) (d : List Bool) {k : Nat} (hk : k < w.length) : ∃ r, RingIs (pt w d) k r := by
  obtain ⟨a, p, _, hc⟩ := cyc_exists (fun x hx => pt_lt hw d hx) hk
  obtain ⟨m, hm⟩ := least_exists (r := orb (pt w d) p (itr (pt w d) a k)) (by simpa using hc.pos)
  exact ⟨_, p, m, a, hc, hm, rfl⟩
/-- all rings, as they come: there is a way to the end -/
theorem rd_end {w : List (Bool × List Int)} (hw : Wish w) : ∀ (fuel k : Nat) (d : List Bool) (out : List (List Nat)), Rd w fuel k d out → ∃ fuel' d', Rd w fuel' w.length d' (ringsOf w)
  | 0, k, d, out, h => by have := h.fuel; omega
  | fuel+1, k, d, out, h => by
    by_cases hk : w.length ≤ k
    · have h1 := h.end hk
      have h2 : k = w.length := Nat.le_antisymm h.le hk
      subst h2; subst h1
      exact ⟨_, _, h⟩
    · cases hd : d.getD k false with
      | true => exact rd_end hw fuel (k + 1) d out (h.next (by omega) hd)
      | false =>
        obtain ⟨r, hr⟩ := ring_exists hw d (show k < w.length by omega)
        exact rd_end hw fuel k _ _ (h.ring hw (by omega) hd hr).1
theorem rings_small {w : List (Bool × List Int)} (hw : Wish w) : (∀ r ∈ ringsOf w, 0 < r.length ∧ r.length ≤ 8 ∧ ∀ x ∈ r, x < w.length) ∧ (ringsOf w).length ≤ 8 := by
  obtain ⟨f, d, h⟩ := rd_end hw _ _ _ _ (rd_first hw)
  have := hw.few
  have := h.some
  exact ⟨h.small, by omega⟩
/-- one nation gets what it points at -/
def put1 (r : List Nat) (out : List Int) (i : Nat) : List Int := out.set (r.getD i 0) ((r.getD ((i + 1) % r.length) 0 : Nat) : Int)
def putR (out : List Int) (r : List Nat) : List Int := (List.range r.length).foldl (put1 r) out
def swapOf (n : Nat) (rs : List (List Nat)) : List Int := rs.foldl putR (List.replicate n 0)
theorem foldl_put1_length (r : List Nat) : ∀ (l : List Nat) (out : List Int), (l.foldl (put1 r) out).length = out.length
  | [], out => rfl
  | i :: l, out => by rw [List.foldl_cons, foldl_put1_length r l]; simp [put1]
theorem swap_fold_length : ∀ (rs : List (List Nat)) (out : List Int), (rs.foldl putR out).length = out.length
  | [], out => rfl
  | r :: rs, out => by rw [List.foldl_cons, swap_fold_length rs]; exact foldl_put1_length r _ out
noncomputable def swapW (w : List (Bool × List Int)) : List Int := if okWishes w then swapOf w.length (ringsOf w) else []
theorem ints_zero (n : Nat) : List.replicate n (FV.int .i64 0) = ints (List.replicate n 0) := by simp [ints]
theorem ints_set' (l : List Int) (i : Nat) (x : Int) : (ints l).set i (.int .i64 x) = ints (l.set i x) := by simp [ints, List.map_set]
def H21 (ctx : Ctx) (w : List (Bool × List Int)) (c : Bool) : Prop := ∀ (ro : Bool), ctx 21 [(ro, .sl c 1 (rowsF w))] = some [.us 1 ((ringsW w).map ringF), .fv (.int .i64 (codeW w))]
theorem v26 (ctx : Ctx) (hC : CtxOk (pg ctx)) (w : List (Bool × List Int)) (c : Bool) (h21 : H21 ctx w c) (ro : Bool) :
    Valid Try.prog 26 [(ro, .sl c 1 (rowsF w))] [.us 1 (ints (swapW w)), .fv (.int .i64 (codeW w))] := by
  refine valid_of_ev (G := pg ctx) (tok ctx) hC mixed Try.func26 T26 L26 (by simp [Try.ntmps26]) ⟨_, rfl, ?_⟩
  simp only [Try.ntmps26, Try.results26, initSt, initEnv]
  unfold H21 at h21
  unfold swapW
  unfold ringsW codeW at *
  cases hok : okWishes w with
  | false =>
    rw [hok] at h21
    simp only [Bool.false_eq_true, if_false] at h21
    refine ev_seq (ev_reg (by simp; rfl) ?_)  -- region 0
    refine ev_seq (ev_reg (by simp [h21]; rfl) ?_)  -- region 1
    refine ev_seq (ev_seq (ev_reg (by simp; rfl) ?_))  -- region 2
    refine ev_cond rfl (fun hb => ?_) (fun hb => by simp at hb)  -- 17
    refine ev_seq (ev_reg (by simp; rfl) ?_)  -- region 3
    refine ev_ret ?_
    simp
  | true =>
    rw [hok] at h21
    simp only [if_true] at h21
    have hw := okWishes_wish hok
    have h8 := hw.few
    have hbw1 : 8 * (w.length : Int) ≤ 281474976710656 := by omega
    have hbw2 : (w.length : Int) ≤ 9223372036854775807 := by omega
    obtain ⟨hsm, hrl⟩ := rings_small hw
    generalize ringsOf w = rs at *
    refine ev_seq (ev_reg (by simp; rfl) ?_)  -- region 0
    refine ev_seq (ev_reg (by simp [h21]; rfl) ?_)  -- region 1
    refine ev_seq (ev_seq (ev_reg (by simp; rfl) ?_))  -- region 2
    refine ev_cond rfl (fun hb => by simp at hb) (fun hb => ?_)  -- 17
    refine ev_skip ?_
    refine ev_seq (ev_reg (by simp [hbw1, hbw2, ints_zero]; rfl) ?_)  -- region 4
    refine ev_seq (ev_seq (ev_reg (by simp; rfl) ?_))  -- region 5
    refine ev_block ?_  -- 0
    refine ev_loop (fun i : Nat => ({ env := [(6, V.own 6 0 w.length), (22, V.own 4 0 rs.length), (23, V.fv false (.int .i64 rs.length)), (24, V.fv false (.int .i64 i))], blk := [(4, Blk.arr 1 (rs.map ringF)), (6, Blk.arr 1 (ints (swapOf w.length (rs.take i))))] } : St)) (fun i => rs.length - i) (fun i => i ≤ rs.length) 0 rfl (by simp) (by simp [R]; omega) (fun i hi => ?_)
    refine ev_seq (ev_reg (by simp; rfl) ?_)  -- region 6
    refine ev_seq (ev_cond rfl (fun hb => ?_) (fun hb => ?_))  -- 25
    · simp at hb
      obtain ⟨r, hr⟩ : ∃ r, rs[i] = r := ⟨_, rfl⟩
      obtain ⟨q1, q2, q3⟩ := hsm r (hr ▸ List.getElem_mem _)
      have hw1 : IntKind.i64.wrap ((i : Int) + 1) = (i + 1 : Nat) := wrap_nat (n := i + 1) (by omega)
      have hsw : swapOf w.length (rs.take (i + 1)) = putR (swapOf w.length (rs.take i)) r := by
        rw [List.take_add_one, List.getElem?_eq_getElem hb, hr, swapOf, List.foldl_append]; rfl
      have hol : (swapOf w.length (rs.take i)).length = w.length := by simp [swapOf, swap_fold_length]
      generalize swapOf w.length (rs.take i) = out at *
      refine ev_skip ?_
      refine ev_seq (ev_block ?_)  -- 1
      refine ev_seq (ev_reg (by simp [hb, hr, ringF]; rfl) ?_)  -- region 7
      refine ev_seq (ev_reg (by simp; rfl) ?_)  -- region 8
      refine ev_block ?_  -- 2
      refine ev_loop (fun j : Nat => ({ env := [(6, V.own 6 0 w.length), (8, V.fv false (.sl false 1 (ints (nn r)))), (22, V.own 4 0 rs.length), (23, V.fv false (.int .i64 rs.length)), (24, V.fv false (.int .i64 i)), (28, V.fv false (.sl false 1 (ints (nn r)))), (29, V.fv false (.int .i64 r.length)), (30, V.fv false (.int .i64 j))], blk := [(4, Blk.arr 1 (rs.map ringF)), (6, Blk.arr 1 (ints ((List.range j).foldl (put1 r) out)))] } : St)) (fun j => r.length - j) (fun j => j ≤ r.length) 0 rfl (by simp) (by simp [R]; omega) (fun j hj => ?_)
      refine ev_seq (ev_reg (by simp; rfl) ?_)  -- region 9
      refine ev_seq (ev_cond rfl (fun hc => ?_) (fun hc => ?_))  -- 31
      · simp at hc
        have hw2 : IntKind.i64.wrap ((j : Int) + 1) = (j + 1 : Nat) := wrap_nat (n := j + 1) (by omega)
        have hmodn : (j + 1) % r.length < r.length := Nat.mod_lt _ q1
        have hmod : ((j : Int) + 1) % (r.length : Int) = ((j + 1) % r.length : Nat) := by
          rw [← Int.natCast_succ, Int.natCast_emod]
        have hmodt : ((j : Int) + 1).tmod (r.length : Int) = ((j + 1) % r.length : Nat) := by
          rw [← Int.natCast_succ, Int.ofNat_tmod]
        have hne : ¬ r = [] := by intro e; rw [e] at q1; simp at q1
        have hol2 : ((List.range j).foldl (put1 r) out).length = w.length := by rw [foldl_put1_length, hol]
        have hput : (List.range (j + 1)).foldl (put1 r) out = ((List.range j).foldl (put1 r) out).set r[j] (r[(j + 1) % r.length] : Nat) := by
          rw [List.range_succ, List.foldl_append]
          simp only [List.foldl_cons, List.foldl_nil, put1]
          rw [List.getD_eq_getElem?_getD, List.getD_eq_getElem?_getD, List.getElem?_eq_getElem hc, List.getElem?_eq_getElem hmodn]; rfl
        have hx := q3 r[j] (List.getElem_mem _)
        generalize (j + 1) % r.length = y at *
        generalize (List.range j).foldl (put1 r) out = o at *
        have hxo : r[j] < o.length := by omega
        generalize hxe : r[j] = x at *
        obtain ⟨ox, hox⟩ : ∃ ox, o[x]? = some ox := ⟨_, List.getElem?_eq_getElem hxo⟩
        refine ev_skip ?_
        refine ev_seq (ev_block ?_)  -- 3
        refine ev_seq (ev_reg (by simp [hc, hxe]; rfl) ?_)  -- region 10
        refine ev_reg (by simp [hw2, hmod, hmodt, hne, hmodn, hx, hox, ints_set']; rfl) ?_  -- region 11
        refine ev_reg (by simp [hw2]; rfl) ?_  -- region 12
        refine ⟨j + 1, ?_, by omega, by omega⟩
        rw [hput]
        simp
      · simp at hc
        have hjr : j = r.length := by omega
        subst hjr
        refine ev_exit ?_  -- 2
        refine ev_reg (by simp [hw1]; rfl) ?_  -- region 13
        refine ⟨i + 1, ?_, by omega, by omega⟩
        rw [hsw]
        simp [putR]
    · simp at hb
      have hir : i = rs.length := by omega
      subst hir
      refine ev_exit ?_  -- 0
      refine ev_seq (ev_reg (by simp; rfl) ?_)  -- region 14
      refine ev_ret ?_
      have hol : (swapOf w.length rs).length = w.length := by simp [swapOf, swap_fold_length]
      simp [hol]
end Go.Proofs.Ytoafhoihigfllaa.E
namespace Go.Proofs.Ytoafhoihigfllaa.E
open Go Go.RowKit
set_option linter.unusedVariables false
set_option linter.unusedSimpArgs false
def H22 (ctx : Ctx) (w : List (Bool × List Int)) (c : Bool) : Prop := ∀ (ro : Bool), ctx 22 [(ro, .sl c 1 (rowsF w))] = some [.us 1 ((ringsW w).map ringF), .fv (.int .i64 (codeW w))]
def H37m (ctx : Ctx) : Prop := ∀ (n d : Nat), 0 < d → ∀ (r1 r2 : Bool), ctx 37 [(r1, .int .i64 n), (r2, .int .i64 d)] = some [.fv (.int .i64 ((n % d : Nat) : Int))]
theorem modI_nat (n d : Nat) : modI (n : Int) (d : Int) = ((n % d : Nat) : Int) := by
  unfold modI
  rw [← Int.ofNat_tmod, if_neg (by omega)]
theorem v27 (ctx : Ctx) (hC : CtxOk (pg ctx)) (w : List (Bool × List Int)) (c : Bool) (h22 : H22 ctx w c) (h37 : H37m ctx) (ro : Bool) :
    Valid Try.prog 27 [(ro, .sl c 1 (rowsF w))] [.us 1 (ints (swapW w)), .fv (.int .i64 (codeW w))] := by
  refine valid_of_ev (G := pg ctx) (tok ctx) hC mixed Try.func27 T27 L27 (by simp [Try.ntmps27]) ⟨_, rfl, ?_⟩
  simp only [Try.ntmps27, Try.results27, initSt, initEnv]
  unfold H22 at h22
  unfold swapW
  unfold ringsW codeW at *
  cases hok : okWishes w with
  | false =>
    rw [hok] at h22
    simp only [Bool.false_eq_true, if_false] at h22
    refine ev_seq (ev_reg (by simp; rfl) ?_)  -- region 0
    refine ev_seq (ev_reg (by simp [h22]; rfl) ?_)  -- region 1
    refine ev_seq (ev_seq (ev_reg (by simp; rfl) ?_))  -- region 2
    refine ev_cond rfl (fun hb => ?_) (fun hb => by simp at hb)  -- 17
    refine ev_seq (ev_reg (by simp; rfl) ?_)  -- region 3
    refine ev_ret ?_
    simp
  | true =>
    rw [hok] at h22
    simp only [if_true] at h22
    have hw := okWishes_wish hok
    have h8 := hw.few
    have hbw1 : 8 * (w.length : Int) ≤ 281474976710656 := by omega
    have hbw2 : (w.length : Int) ≤ 9223372036854775807 := by omega
    obtain ⟨hsm, hrl⟩ := rings_small hw
    generalize ringsOf w = rs at *
    refine ev_seq (ev_reg (by simp; rfl) ?_)  -- region 0
    refine ev_seq (ev_reg (by simp [h22]; rfl) ?_)  -- region 1
    refine ev_seq (ev_seq (ev_reg (by simp; rfl) ?_))  -- region 2
    refine ev_cond rfl (fun hb => by simp at hb) (fun hb => ?_)  -- 17
    refine ev_skip ?_
    refine ev_seq (ev_reg (by simp [hbw1, hbw2, ints_zero]; rfl) ?_)  -- region 4
    refine ev_seq (ev_seq (ev_reg (by simp; rfl) ?_))  -- region 5
    refine ev_block ?_  -- 0
    refine ev_loop (fun i : Nat => ({ env := [(4, V.own 4 0 rs.length), (6, V.own 6 0 w.length), (7, V.fv false (.int .i64 i))], blk := [(4, Blk.arr 1 (rs.map ringF)), (6, Blk.arr 1 (ints (swapOf w.length (rs.take i))))] } : St)) (fun i => rs.length - i) (fun i => i ≤ rs.length) 0 rfl (by simp) (by simp [R]; omega) (fun i hi => ?_)
    refine ev_seq (ev_seq (ev_reg (by simp; rfl) ?_))  -- region 6
    refine ev_cond rfl (fun hb => ?_) (fun hb => ?_)  -- 23
    · simp at hb
      obtain ⟨r, hr⟩ : ∃ r, rs[i] = r := ⟨_, rfl⟩
      obtain ⟨q1, q2, q3⟩ := hsm r (hr ▸ List.getElem_mem _)
      have hw1 : IntKind.i64.wrap ((i : Int) + 1) = (i + 1 : Nat) := wrap_nat (n := i + 1) (by omega)
      have hsw : swapOf w.length (rs.take (i + 1)) = putR (swapOf w.length (rs.take i)) r := by
        rw [List.take_add_one, List.getElem?_eq_getElem hb, hr, swapOf, List.foldl_append]; rfl
      have hol : (swapOf w.length (rs.take i)).length = w.length := by simp [swapOf, swap_fold_length]
      generalize swapOf w.length (rs.take i) = out at *
      refine ev_skip ?_
      refine ev_seq (ev_block ?_)  -- 1
      refine ev_seq (ev_reg (by simp; rfl) ?_)  -- region 8
      refine ev_block ?_  -- 2
      refine ev_loop (fun j : Nat => ({ env := [(4, V.own 4 0 rs.length), (6, V.own 6 0 w.length), (7, V.fv false (.int .i64 i)), (8, V.fv false (.int .i64 j))], blk := [(4, Blk.arr 1 (rs.map ringF)), (6, Blk.arr 1 (ints ((List.range j).foldl (put1 r) out)))] } : St)) (fun j => r.length - j) (fun j => j ≤ r.length) 0 rfl (by simp) (by simp [R]; omega) (fun j hj => ?_)
      refine ev_seq (ev_seq (ev_reg (by simp [hb, hr, ringF]; rfl) ?_))  -- region 9
      refine ev_cond rfl (fun hc => ?_) (fun hc => ?_)  -- 32
      · simp at hc
        have hw2 : IntKind.i64.wrap ((j : Int) + 1) = (j + 1 : Nat) := wrap_nat (n := j + 1) (by omega)
        have hmodn : (j + 1) % r.length < r.length := Nat.mod_lt _ q1
        have e37 := h37 (j + 1) r.length q1
        simp only [Int.natCast_add, Int.natCast_one] at e37 hw2
        have hol2 : ((List.range j).foldl (put1 r) out).length = w.length := by rw [foldl_put1_length, hol]
        have hput : (List.range (j + 1)).foldl (put1 r) out = ((List.range j).foldl (put1 r) out).set r[j] (r[(j + 1) % r.length] : Nat) := by
          rw [List.range_succ, List.foldl_append]
          simp only [List.foldl_cons, List.foldl_nil, put1]
          rw [List.getD_eq_getElem?_getD, List.getD_eq_getElem?_getD, List.getElem?_eq_getElem hc, List.getElem?_eq_getElem hmodn]; rfl
        have hx := q3 r[j] (List.getElem_mem _)
        generalize (j + 1) % r.length = y at *
        generalize (List.range j).foldl (put1 r) out = o at *
        have hxo : r[j] < o.length := by omega
        generalize hxe : r[j] = x at *
        obtain ⟨ox, hox⟩ : ∃ ox, o[x]? = some ox := ⟨_, List.getElem?_eq_getElem hxo⟩
        refine ev_skip ?_
        refine ev_seq (ev_block ?_)  -- 3
        refine ev_drw rfl (by kernel_rfl) (by kernel_rfl) (by simp [hb, hr, ringF, hc, hxe, hw2, e37, hmodn, hx, hox, ints_set']; rfl) ?_  -- region 11
        refine ev_reg (by simp [hw2]; rfl) ?_  -- region 10
        refine ⟨j + 1, ?_, by omega, by omega⟩
        rw [hput]
        simp
      · simp at hc
        have hjr : j = r.length := by omega
        subst hjr
        refine ev_exit ?_  -- 2
        refine ev_reg (by simp [hw1]; rfl) ?_  -- region 7
        refine ⟨i + 1, ?_, by omega, by omega⟩
        rw [hsw]
        simp [putR]
    · simp at hb
      have hir : i = rs.length := by omega
      subst hir
      refine ev_exit ?_  -- 0
      refine ev_seq (ev_reg (by simp; rfl) ?_)  -- region 12
      refine ev_ret ?_
      have hol : (swapOf w.length rs).length = w.length := by simp [swapOf, swap_fold_length]
      simp [hol]
end Go.Proofs.Ytoafhoihigfllaa.E
namespace Go.Proofs.Ytoafhoihigfllaa.E
open Go Go.RowKit
set_option linter.unusedVariables false
set_option linter.unusedSimpArgs false
def H26 (ctx : Ctx) (w : List (Bool × List Int)) (c : Bool) : Prop := ∀ (ro : Bool), ctx 26 [(ro, .sl c 1 (rowsF w))] = some [.us 1 (ints (swapW w)), .fv (.int .i64 (codeW w))]
def H27 (ctx : Ctx) (w : List (Bool × List Int)) (c : Bool) : Prop := ∀ (ro : Bool), ctx 27 [(ro, .sl c 1 (rowsF w))] = some [.us 1 (ints (swapW w)), .fv (.int .i64 (codeW w))]
theorem v4 (ctx : Ctx) (hC : CtxOk (pg ctx)) (w : List (Bool × List Int)) (c : Bool) (h21 : H21 ctx w c) (h22 : H22 ctx w c) (h24 : H24 ctx w c) (h25 : H25 ctx w c) (h26 : H26 ctx w c) (h27 : H27 ctx w c)
    (h23 : ∀ r1 r2 c1 c2 : Bool, ctx 23 [(r1, .sl c1 1 ((ringsW w).map ringF)), (r2, .sl c2 1 ((ringsW w).map ringF))] = some [.fv (.bool true)]) (h17 : ∀ r1 r2 c1 c2 : Bool, ctx 17 [(r1, .sl c1 1 (ints (swapW w))), (r2, .sl c2 1 (ints (swapW w)))] = some [.fv (.bool true)]) (h20 : ctx 20 [] = some [.fv (.bool true)]) (ro : Bool) :
    Valid Try.prog 4 [(ro, .sl c 1 (rowsF w))] [.fv (.bool true)] := by
  refine valid_of_ev (G := pg ctx) (tok ctx) hC mixed Try.func4 T4 L4 (by simp [Try.ntmps4]) ⟨_, rfl, ?_⟩
  simp only [Try.ntmps4, Try.results4, initSt, initEnv]
  unfold H21 at h21; unfold H22 at h22; unfold H24 at h24; unfold H25 at h25; unfold H26 at h26; unfold H27 at h27
  generalize hR : (ringsW w).map ringF = R at *
  have hRl : (ringsW w).length = R.length := by rw [← hR]; simp
  generalize codeW w = code at *
  generalize swapW w = s at *
  have tR : List.take R.length R = R := List.take_of_length_le (Nat.le_refl _)
  have tS : List.take s.length s = s := List.take_of_length_le (Nat.le_refl _)
  refine ev_seq (ev_reg (by simp; rfl) ?_)  -- region 0
  refine ev_seq (ev_reg (by simp [h21]; rfl) ?_)  -- region 1
  refine ev_seq (ev_reg (by simp [h22]; rfl) ?_)  -- region 2
  refine ev_seq (ev_seq (ev_reg (by simp [tR, h23, h24, h25]; rfl) ?_))  -- region 3
  refine ev_cond rfl (fun hb => by simp at hb) (fun hb => ?_)  -- 34
  refine ev_skip ?_
  refine ev_seq (ev_reg (by simp [h26]; rfl) ?_)  -- region 5
  refine ev_seq (ev_reg (by simp [h27]; rfl) ?_)  -- region 6
  refine ev_seq (ev_reg (by simp [tS, h17, h20]; rfl) ?_)  -- region 7
  refine ev_ret ?_
  simp
end Go.Proofs.Ytoafhoihigfllaa.E
