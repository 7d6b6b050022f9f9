/-
  The engine, part 3d: the arguments of a law: what a reading says of them as frozen values; and a law's contract out of what is said of the function. Conditions: none.
-/
import Derived.Test.YtoafhoihigfllaaGc
import Derived.WalkKit
import Derived.ProofKit
import Derived.OpenShut
import Derived.JoinedCond
import Derived.ReadAgain
import Derived.DataShut
import Derived.Below
import Derived.Carry
import Derived.SizedLaws
namespace Go.Proofs.Ytoafhoihigfllaa.E
open Go Go.RowKit Go.ChangeShapes
set_option linter.unusedVariables false
def isStruct (P : Program) (t : Nat) : Bool := match P.underlying t with | some (.struct _) => true | _ => false
/-- Fields that follow each other. -/
def consec (P : Program) (tot : Nat) : Nat → List Field → Bool
  | k, [] => k == tot
  | k, f :: r => f.offset == k && consec P tot (k + P.cellsOf f.type) r
/-- Types of integers, bools, lists and structs of them. -/
def dataT (P : Program) : Nat → Nat → Bool
  | 0, _ => false
  | n + 1, t => match P.underlying t with
    | some (.int _) => true
    | some .bool => true
    | some (.slice e) => Nat.ble 1 (P.cellsOf e) && dataT P n e
    | some (.struct fs) => consec P (P.cellsOf t) 0 fs.toList && fs.toList.all fun f => dataT P n f.type
    | _ => false
/-- the cells of a value of a type -/
def FVT (P : Program) : Nat → Nat → List FV → Prop
  | 0, _, _ => False
  | n + 1, t, fs => match P.underlying t with
    | some (.int k) => ∃ m, fs = [.int k m]
    | some .bool => ∃ b, fs = [.bool b]
    | some (.slice e) => ∃ xs : List FV, fs = [.sl false (P.cellsOf e) xs] ∧ xs.length * P.bytesOf e ≤ reachBytes ∧ ∀ x ∈ xs, (if isStruct P e = true then ∃ gs, x = .agg gs ∧ FVT P n e gs else FVT P n e [x])
    | some (.struct fl) => ∃ gss : List (List FV), gss.length = fl.toList.length ∧ fs = gss.flatten ∧ ∀ (i : Nat) (f : Field) (g : List FV), fl.toList[i]? = some f → gss[i]? = some g → FVT P n f.type g
    | _ => False
section
variable {H : Type} {enc : TypeId × Value → H} {P : Program} {W W' : World} {base : Nat} {spare : Nat → Bool} {held : Bool}
theorem cell_keep (hk : ∀ b, b < W.heap.size → W'.heap[b]? = W.heap[b]?) {a : Addr} {v : Value} (h : W.cell? a = some v) : W'.cell? a = some v ∧ a.block < W.heap.size ∧ a.spot = none := by
  unfold World.cell? at h ⊢
  split at h
  · rename_i c e fr hb
    have hlt := (Array.getElem?_eq_some_iff.1 hb).1
    rw [hk _ hlt, hb]
    refine ⟨h, hlt, ?_⟩
    cases hs : a.spot with
    | none => rfl
    | some s => simp [hs] at h
  · cases h
theorem cells_keep (hk : ∀ b, b < W.heap.size → W'.heap[b]? = W.heap[b]?) {a : Addr} {n : Nat} {cs : List Value} (h : W.cells? base a n = some cs) : W'.cells? base a n = some cs := by
  obtain ⟨h1, h2, h3⟩ := World.cells?_some h
  refine World.cells?_of_each h1 h2 fun i hi => ?_
  have h4 := h3 i hi
  rw [List.getElem?_eq_getElem (by omega)] at h4 ⊢
  exact (cell_keep hk h4).1
theorem trod_keep (hk : ∀ b, b < W.heap.size → W'.heap[b]? = W.heap[b]?) : ∀ (n t : Nat), dataT P n t = true → ∀ (fuel : Nat) (cs : List Value) (x : DataW H × List MemPlace),
    DataW.trod enc P W base spare held fuel t cs = some x → DataW.trod enc P W' base spare held fuel t cs = some x
  | 0, t, hd, _, _, _, _ => by simp [dataT] at hd
  | n + 1, t, hd, fuel, cs, x, h => by
    simp only [dataT] at hd
    split at hd
    · rename_i k ht
      obtain ⟨m, rfl, rfl, hw⟩ := DataW.trod_int ht h
      cases fuel with
      | zero => simp [DataW.trod] at h
      | succ f => simp [DataW.trod, ht, hw]
    · rename_i ht
      obtain ⟨m, rfl, rfl⟩ := DataW.trod_bool ht h
      cases fuel with
      | zero => simp [DataW.trod] at h
      | succ f => simp [DataW.trod, ht]
    · rename_i e ht
      simp only [Bool.and_eq_true, Nat.ble_eq] at hd
      have key : ∀ {f : Nat} {a : Addr} {y : DataW H × List MemPlace}, (W.cells? base a (P.cellsOf e)).bind (DataW.trod enc P W base spare held f e) = some y → (W'.cells? base a (P.cellsOf e)).bind (DataW.trod enc P W' base spare held f e) = some y := fun {f a y} hy => by
        simp only [Option.bind_eq_some_iff] at hy ⊢
        obtain ⟨cs', h1, h2⟩ := hy
        exact ⟨cs', cells_keep hk h1, trod_keep hk n e hd.2 _ _ _ h2⟩
      rcases DataW.trod_slice ht h with ⟨rfl, rfl⟩ | ⟨a, len, cap, elems, rest, f, rfl, rfl, rfl, hb, hl, hm, hlen, hel, hsp, hns⟩
      · cases fuel with
        | zero => simp [DataW.trod] at h
        | succ f => simp [DataW.trod, ht]
      · have h1 : (List.range len).mapM (fun i => (W'.cells? base (a.add (i * P.cellsOf e)) (P.cellsOf e)).bind (DataW.trod enc P W' base spare held f e)) = some elems := by
          refine mapM_some_of_get _ _ (by simpa using hlen) fun i x hx => ?_
          obtain ⟨hi, rfl⟩ := List.getElem?_eq_some_iff.1 hx
          simp only [List.length_range] at hi
          have := hel i hi
          simp only [List.getElem_range]
          rw [List.getElem?_eq_getElem (by omega)] at this ⊢
          exact key this
        have h2 : (if spare a.block = true then (List.range (cap - len)).mapM (fun j => (W'.cells? base (a.add ((len + j) * P.cellsOf e)) (P.cellsOf e)).bind (DataW.trod enc P W' base spare held f e)) else some []) = some rest := by
          split
          · rename_i hs
            obtain ⟨hrl, hr⟩ := hsp hs
            refine mapM_some_of_get _ _ (by simpa using hrl) fun i x hx => ?_
            obtain ⟨hi, rfl⟩ := List.getElem?_eq_some_iff.1 hx
            simp only [List.length_range] at hi
            have := hr i hi
            simp only [List.getElem_range]
            rw [List.getElem?_eq_getElem (by omega)] at this ⊢
            exact key this
          · rename_i hs
            rw [hns (by simpa using hs)]
        unfold DataW.trod
        rw [ht]
        dsimp only
        rw [if_pos ⟨hb, hl, hm⟩, h1]
        dsimp only [Option.bind_some]
        rw [h2]
        rfl
    · rename_i fs ht
      simp only [List.all_eq_true, Bool.and_eq_true] at hd
      obtain ⟨xs, f, rfl, rfl, hl, hlen, hf⟩ := DataW.trod_struct ht h
      refine trod_struct_mk ht hl (mapM_some_of_get _ _ (by simpa using hlen) fun i g hg => ?_)
      have hgm : g ∈ fs.toList := List.mem_of_getElem? hg
      have := hf i g (by simpa using hg)
      have hi : i < xs.length := by
        have := (List.getElem?_eq_some_iff.1 hg).1
        simpa [hlen] using this
      rw [List.getElem?_eq_getElem hi] at this ⊢
      exact trod_keep hk n g.type (hd.2 g hgm) _ _ _ this
    · cases hd
theorem add_none (b o i j : Nat) : ((⟨b, o, none⟩ : Addr).add i).add j = ⟨b, o + (i + j), none⟩ := by
  unfold Addr.add
  by_cases h1 : i = 0 <;> by_cases h2 : j = 0 <;> simp [h1, h2, Nat.add_assoc]
theorem FVT_single {n t : Nat} {fs : List FV} (h : FVT P n t fs) (hs : isStruct P t = false) : ∃ g, fs = [g] := by
  cases n with
  | zero => exact h.elim
  | succ n =>
    simp only [FVT] at h
    split at h
    · obtain ⟨m, rfl⟩ := h; exact ⟨_, rfl⟩
    · obtain ⟨m, rfl⟩ := h; exact ⟨_, rfl⟩
    · obtain ⟨m, rfl, _⟩ := h; exact ⟨_, rfl⟩
    · rename_i ht; simp [isStruct, ht] at hs
    · exact h.elim
theorem weights_all {e : TypeId} {m : Nat} : ∀ {l : List (DataW H)} {d : DataW H}, d ∈ l → m ∈ d.weights P e → m ∈ DataW.weightsAll P e l
  | x :: r, d, hd, hm => by
    simp only [DataW.weightsAll, List.mem_append]
    rcases List.mem_cons.1 hd with rfl | hd
    · exact .inl hm
    · exact .inr (weights_all hd hm)
theorem fields_rep {n : Nat} {cs : List Value} (ih : ∀ (t : Nat), dataT P n t = true → ∀ (fuel : Nat) (cs : List Value) (x : DataW H × List MemPlace), DataW.trod enc P W base spare held fuel t cs = some x → (∀ m ∈ x.1.weights P t, m ≤ reachBytes) →
    ∃ fs : List FV, FVT P n t fs ∧ fs.length = cs.length ∧ (∀ y ∈ fs, nagg y = true) ∧ ∀ (j : Nat) (y : FV), fs[j]? = some y → RepF (fun b => b < W.heap.size) W y (cs.getD j undef)) {fuel : Nat} :
    ∀ (fl : List Field) (k : Nat), consec P cs.length k fl = true → (∀ f ∈ fl, dataT P n f.type = true) → (∀ f ∈ fl, ∃ y, DataW.trod enc P W base spare held fuel f.type ((cs.drop f.offset).take (P.cellsOf f.type)) = some y ∧ ∀ m ∈ y.1.weights P f.type, m ≤ reachBytes) →
      k ≤ cs.length ∧ ∃ gss : List (List FV), gss.length = fl.length ∧ (∀ (i : Nat) (f : Field) (g : List FV), fl[i]? = some f → gss[i]? = some g → FVT P n f.type g) ∧ k + gss.flatten.length = cs.length ∧ (∀ y ∈ gss.flatten, nagg y = true) ∧
        ∀ (j : Nat) (y : FV), gss.flatten[j]? = some y → RepF (fun b => b < W.heap.size) W y (cs.getD (k + j) undef)
  | [], k, hc, _, _ => by
    simp only [consec, beq_iff_eq] at hc
    exact ⟨by omega, [], rfl, by simp, by simpa using hc, by simp, by simp⟩
  | f :: r, k, hc, hd, hf => by
    simp only [consec, Bool.and_eq_true, beq_iff_eq] at hc
    obtain ⟨ho, hc⟩ := hc
    obtain ⟨hle, gss, g1, g2, g3, g4, g5⟩ := fields_rep ih r _ hc (fun g hg => hd g (List.mem_cons_of_mem _ hg)) (fun g hg => hf g (List.mem_cons_of_mem _ hg))
    obtain ⟨y, hy, hyw⟩ := hf f List.mem_cons_self
    obtain ⟨fs, e1, e2, e3, e4⟩ := ih f.type (hd f List.mem_cons_self) _ _ _ hy hyw
    rw [ho] at e2 e4
    have hlen : fs.length = P.cellsOf f.type := by rw [e2]; simp; omega
    refine ⟨by omega, fs :: gss, by simp [g1], fun i g x hg hx => ?_, by simp only [List.flatten_cons, List.length_append]; omega, fun y hy => ?_, fun j y hj => ?_⟩
    · cases i with
      | zero =>
        simp only [List.getElem?_cons_zero, Option.some.injEq] at hg hx
        subst hg hx; exact e1
      | succ i => exact g2 i g x (by simpa using hg) (by simpa using hx)
    · simp only [List.flatten_cons, List.mem_append] at hy
      exact hy.elim (e3 y) (g4 y)
    · simp only [List.flatten_cons] at hj
      by_cases hlt : j < fs.length
      · rw [List.getElem?_append_left hlt] at hj
        have := e4 j y hj
        have hg : ((cs.drop k).take (P.cellsOf f.type)).getD j undef = cs.getD (k + j) undef := by
          simp only [List.getD_eq_getElem?_getD]
          rw [List.getElem?_take_of_lt (by omega), List.getElem?_drop]
        rw [← hg]; exact this
      · rw [List.getElem?_append_right (by omega)] at hj
        have := g5 _ y hj
        rw [show k + P.cellsOf f.type + (j - fs.length) = k + j by omega] at this
        exact this
theorem trod_rep : ∀ (n t : Nat), dataT P n t = true → ∀ (fuel : Nat) (cs : List Value) (x : DataW H × List MemPlace), DataW.trod enc P W base spare held fuel t cs = some x → (∀ m ∈ x.1.weights P t, m ≤ reachBytes) →
    ∃ fs : List FV, FVT P n t fs ∧ fs.length = cs.length ∧ (∀ y ∈ fs, nagg y = true) ∧ ∀ (j : Nat) (y : FV), fs[j]? = some y → RepF (fun b => b < W.heap.size) W y (cs.getD j undef)
  | 0, t, hd, _, _, _, _, _ => by simp [dataT] at hd
  | n + 1, t, hd, fuel, cs, x, h, hwt => by
    simp only [dataT] at hd
    split at hd
    · rename_i k ht
      obtain ⟨m, rfl, rfl, hw⟩ := DataW.trod_int ht h
      refine ⟨[.int k m], by simp only [FVT, ht]; exact ⟨m, rfl⟩, rfl, by simp [nagg], fun j y hj => ?_⟩
      cases j with
      | zero => simp only [List.getElem?_cons_zero, Option.some.injEq] at hj; subst hj; exact .int _ _
      | succ j => simp at hj
    · rename_i ht
      obtain ⟨m, rfl, rfl⟩ := DataW.trod_bool ht h
      refine ⟨[.bool m], by simp only [FVT, ht]; exact ⟨m, rfl⟩, rfl, by simp [nagg], fun j y hj => ?_⟩
      cases j with
      | zero => simp only [List.getElem?_cons_zero, Option.some.injEq] at hj; subst hj; exact .bool _
      | succ j => simp at hj
    · rename_i e ht
      simp only [Bool.and_eq_true, Nat.ble_eq] at hd
      rcases DataW.trod_slice ht h with ⟨rfl, rfl⟩ | ⟨a, len, cap, elems, rest, f, rfl, rfl, rfl, hb, hl, hm, hlen, hel, hsp, hns⟩
      · refine ⟨[.sl false (P.cellsOf e) []], by simp only [FVT, ht]; exact ⟨[], rfl, by simp, by simp⟩, rfl, by simp [nagg], fun j y hj => ?_⟩
        cases j with
        | zero => simp only [List.getElem?_cons_zero, Option.some.injEq] at hj; subst hj; exact .sl0 _ _ _ _ (by simp)
        | succ j => simp at hj
      · have each : ∀ i, ∃ x : FV, i < len → (if isStruct P e = true then ∃ gs, x = .agg gs ∧ FVT P n e gs else FVT P n e [x]) ∧ (cellsOf x).length = P.cellsOf e ∧ (cellsOf x).all nagg = true ∧
            ∀ (j : Nat) (y : FV), (cellsOf x)[j]? = some y → ∃ v, W.cell? ((a.add (i * P.cellsOf e)).add j) = some v ∧ RepF (fun b => b < W.heap.size) W y v := fun i => by
          by_cases hi : i < len
          · have h1 := hel i hi
            rw [List.getElem?_eq_getElem (by omega)] at h1
            simp only [Option.bind_eq_some_iff] at h1
            obtain ⟨cs', h2, h3⟩ := h1
            obtain ⟨gs, g1, g2, g3, g4⟩ := trod_rep n e hd.2 _ _ _ h3 (fun m hm => hwt m (by
              simp only [DataW.weights, ht, List.mem_cons, List.mem_append]
              exact .inr (.inl (weights_all (List.mem_map.2 ⟨_, List.getElem_mem _, rfl⟩) hm))))
            obtain ⟨c1, c2, c3⟩ := World.cells?_some h2
            have hcell : ∀ (j : Nat) (y : FV), gs[j]? = some y → ∃ v, W.cell? ((a.add (i * P.cellsOf e)).add j) = some v ∧ RepF (fun b => b < W.heap.size) W y v := fun j y hj => by
              have hjl : j < cs'.length := by rw [← g2]; exact (List.getElem?_eq_some_iff.1 hj).1
              have h4 := g4 j y hj
              have h5 := c3 j (by omega)
              rw [List.getElem?_eq_getElem hjl] at h5
              rw [List.getD_eq_getElem?_getD, List.getElem?_eq_getElem hjl] at h4
              exact ⟨_, h5, h4⟩
            cases hs : isStruct P e with
            | true =>
              exact ⟨.agg gs, fun _ => ⟨⟨gs, rfl, g1⟩, by simp only [cellsOf]; omega, by simp only [cellsOf, List.all_eq_true]; exact g3, hcell⟩⟩
            | false =>
              obtain ⟨g, rfl⟩ := FVT_single g1 hs
              have hg := g3 g (by simp)
              have hc : cellsOf g = [g] := by cases g <;> first | rfl | simp [nagg] at hg
              refine ⟨g, fun _ => ⟨by simpa using g1, by rw [hc]; omega, by rw [hc]; simpa using hg, by rw [hc]; exact hcell⟩⟩
          · exact ⟨.nilpt, fun h => absurd h hi⟩
        obtain ⟨g, hg⟩ : ∃ g : Nat → FV, ∀ i, i < len → (if isStruct P e = true then ∃ gs, g i = .agg gs ∧ FVT P n e gs else FVT P n e [g i]) ∧ (cellsOf (g i)).length = P.cellsOf e ∧ (cellsOf (g i)).all nagg = true ∧
            ∀ (j : Nat) (y : FV), (cellsOf (g i))[j]? = some y → ∃ v, W.cell? ((a.add (i * P.cellsOf e)).add j) = some v ∧ RepF (fun b => b < W.heap.size) W y v :=
          ⟨fun i => Classical.choose (each i), fun i => Classical.choose_spec (each i)⟩
        refine ⟨[.sl false (P.cellsOf e) ((List.range len).map g)], by
          simp only [FVT, ht]
          refine ⟨_, rfl, by
            have := hwt ((elems.length + rest.length) * P.bytesOf e) (by simp [DataW.weights, ht])
            refine Nat.le_trans (Nat.mul_le_mul_right _ ?_) this
            simp; omega, fun x hx => ?_⟩
          simp only [List.mem_map, List.mem_range] at hx
          obtain ⟨i, hi, rfl⟩ := hx
          exact (hg i hi).1, rfl, by simp [nagg], fun j y hj => ?_⟩
        cases j with
        | succ j => simp at hj
        | zero =>
        simp only [List.getElem?_cons_zero, Option.some.injEq] at hj; subst hj
        have hgt : ([Value.slice (some a) len cap] : List Value).getD 0 undef = .slice (some a) len cap := rfl
        rw [hgt]
        have hget : ∀ (i : Nat) (x : FV), ((List.range len).map g)[i]? = some x → i < len ∧ x = g i := fun i x hx => by
          simp only [List.getElem?_map, Option.map_eq_some_iff] at hx
          obtain ⟨k, hk, rfl⟩ := hx
          obtain ⟨hk1, hk2⟩ := List.getElem?_eq_some_iff.1 hk
          simp only [List.getElem_range] at hk2
          subst hk2
          exact ⟨by simpa using hk1, rfl⟩
        by_cases h0 : len = 0
        · subst h0
          exact .sl0 _ _ _ _ (by simp)
        · obtain ⟨b, o, sp⟩ := a
          have hfirst : b < W.heap.size ∧ sp = none := by
            obtain ⟨_, k2, _, k4⟩ := hg 0 (by omega)
            have : 0 < (cellsOf (g 0)).length := by omega
            obtain ⟨v, hv, _⟩ := k4 0 _ (List.getElem?_eq_getElem this)
            rw [show ((⟨b, o, sp⟩ : Addr).add (0 * P.cellsOf e)).add 0 = ⟨b, o, sp⟩ by simp [Addr.add]] at hv
            obtain ⟨_, e1, e2⟩ := cell_keep (W' := W) (fun _ _ => rfl) hv
            exact ⟨e1, e2⟩
          obtain ⟨hb1, rfl⟩ := hfirst
          refine .sl false (P.cellsOf e) _ b o len cap (fun i j => (W.cell? ⟨b, o + (i * P.cellsOf e + j), none⟩).getD undef) (by simp) hl (by simp) hb1 (fun i x hx => ?_) (fun i x j y hx hy => ?_) (fun i x j y hx hy => ?_)
          · obtain ⟨hi, rfl⟩ := hget i x hx
            obtain ⟨_, k2, k3, _⟩ := hg i hi
            simp only [cellsOK, Bool.and_eq_true, beq_iff_eq]
            exact ⟨k2, k3⟩
          · obtain ⟨hi, rfl⟩ := hget i x hx
            obtain ⟨v, hv, _⟩ := (hg i hi).2.2.2 j y hy
            rw [add_none] at hv
            rw [hv]; rfl
          · obtain ⟨hi, rfl⟩ := hget i x hx
            obtain ⟨v, hv, hr⟩ := (hg i hi).2.2.2 j y hy
            rw [add_none] at hv
            rw [hv]; exact hr
    · rename_i fs ht
      simp only [List.all_eq_true, Bool.and_eq_true] at hd
      obtain ⟨xs, f, rfl, rfl, hl, hlen, hf⟩ := DataW.trod_struct ht h
      obtain ⟨_, gss, g1, g2, g3, g4, g5⟩ := fields_rep (n := n) (cs := cs) (fuel := f) (trod_rep n) fs.toList 0 (by rw [hl]; exact hd.1) hd.2 (fun g hg => by
        obtain ⟨i, hi, rfl⟩ := List.getElem_of_mem hg
        have h1 := hf i fs.toList[i] (by simp at hi ⊢)
        rw [List.getElem?_eq_getElem (by simpa [hlen] using hi)] at h1
        exact ⟨_, h1, fun m hm => hwt m (by
          simp only [DataW.weights, ht]
          exact DataW.weights_mem_each (j := i) (t := fs.toList[i].type) (d := (xs[i]'(by simpa [hlen] using hi)).1) (by simp [List.getElem?_eq_getElem hi]) (by simp [List.getElem?_eq_getElem (show i < xs.length by simpa [hlen] using hi)]) m hm)⟩)
      exact ⟨gss.flatten, by simp only [FVT, ht]; exact ⟨gss, g1, rfl, g2⟩, by omega, g4, by simpa using g5⟩
    · cases hd
def argFV (P : Program) (t : Nat) (fs : List FV) : FV := if isStruct P t = true then .agg fs else fs.headD .nilpt
structure IsT (P : Program) (n t : Nat) (fs : List FV) : Prop where
  h : FVT P n t fs
def ArgsT (P : Program) (n : Nat) : List TypeId → List FV → Prop
  | [], xs => xs = []
  | t :: ts, xs => ∃ fs ys, xs = argFV P t fs :: ys ∧ IsT P n t fs ∧ ArgsT P n ts ys
open Go.WideShapes in
theorem arg_rep {n t : Nat} (hd : dataT P n t = true) {v : Value} {d : DataW H} {ps : List MemPlace} {r : Reach} {b0 : Nat} (hv : Value.okWide P W r b0 t v) (h : DataW.Trod enc P W base spare held t v d ps) (hw : ∀ m ∈ d.weights P t, m ≤ reachBytes) :
    ∃ fs, FVT P n t fs ∧ RepF (fun b => b < W.heap.size) W (argFV P t fs) v := by
  obtain ⟨fuel, h⟩ := h
  obtain ⟨fs, h1, h2, h3, h4⟩ := trod_rep n t hd _ _ _ h hw
  refine ⟨fs, h1, ?_⟩
  cases hs : isStruct P t with
  | true =>
    simp only [argFV, hs, if_true]
    unfold isStruct at hs
    split at hs
    · rename_i fl ht
      obtain ⟨cs, rfl, hsz⟩ := okWide_struct ht hv
      refine .agg fs cs (by simpa [Value.cells] using h2.symm) fun j y hj => ?_
      have := h4 j y hj
      simpa [Value.cells, Array.getD_eq_getD_getElem?, List.getD_eq_getElem?_getD] using this
    · cases hs
  | false =>
    obtain ⟨g, rfl⟩ := FVT_single h1 hs
    simp only [argFV, hs, Bool.false_eq_true, if_false, List.headD_cons]
    have hg := h4 0 g rfl
    have hc : v.cells = #[v] := by
      cases n with
      | zero => simp [dataT] at hd
      | succ n =>
        simp only [dataT] at hd
        split at hd
        · rename_i ht; obtain ⟨m, rfl⟩ := okWide_int ht hv; rfl
        · rename_i ht; obtain ⟨m, rfl⟩ := okWide_bool ht hv; rfl
        · rename_i ht; obtain ⟨a, l, c, rfl⟩ := okWide_slice ht hv; rfl
        · rename_i ht; simp [isStruct, ht] at hs
        · cases hd
    rw [hc] at hg
    exact hg
theorem args_open {n : Nat} : ∀ (ts : List TypeId) {vs : List Value} {ds : List (DataW H)} {ps : List MemPlace}, (∀ t ∈ ts, dataT P n t = true) → (∀ (j : Nat) t v, ts[j]? = some t → vs[j]? = some v → Value.okWide P W .any base t v) →
    DataW.TrodAll enc P W 0 (fun _ => true) true ts vs ds ps → (∀ m ∈ DataW.weightsEach P ts ds, m ≤ reachBytes) →
    ds.length = ts.length ∧ ∃ xs, ArgsT P n ts xs ∧ xs.length = vs.length ∧ ∀ (j : Nat) (x : FV), xs[j]? = some x → ∃ v, vs[j]? = some v ∧ RepF (fun b => b < W.heap.size) W x v
  | [], vs, ds, ps, _, _, h, _ => by
    obtain ⟨rfl, rfl, rfl⟩ := trodAll_nil h
    exact ⟨rfl, [], rfl, rfl, by simp⟩
  | t :: ts, vs, ds, ps, hd, hv, h, hw => by
    obtain ⟨v, vs', d, ds', p, q, rfl, rfl, rfl, h1, h2⟩ := trodAll_cons h
    obtain ⟨e1, xs, e2, e3, e4⟩ := args_open ts (fun t ht => hd t (List.mem_cons_of_mem _ ht)) (fun j t v h1 h2 => hv (j + 1) t v (by simpa using h1) (by simpa using h2)) h2 (fun m hm => hw m (by simp only [DataW.weightsEach, List.mem_append]; exact .inr hm))
    obtain ⟨fs, f1, f2⟩ := arg_rep (hd t List.mem_cons_self) (hv 0 t v rfl rfl) h1 (fun m hm => hw m (by simp only [DataW.weightsEach, List.mem_append]; exact .inl hm))
    refine ⟨by simp [e1], argFV P t fs :: xs, ⟨fs, xs, rfl, ⟨f1⟩, e2⟩, by simp [e3], fun j x hj => ?_⟩
    cases j with
    | zero => simp only [List.getElem?_cons_zero, Option.some.injEq] at hj; subst hj; exact ⟨v, rfl, f2⟩
    | succ j => simpa using e4 j x (by simpa using hj)
theorem args_back (hl : laidOutB P = true) (hb : Below W.heap.size W W') : ∀ (ts : List TypeId) {vs : List Value} {ds : List (DataW H)} {ps : List MemPlace}, (∀ t ∈ ts, P.readableRec t = true ∧ t < P.types.size) → (∀ x ∈ ps, x.block < W.heap.size) →
    DataW.TrodAll enc P W 0 (fun _ => true) true ts vs ds ps → DataW.TrodAll enc P W' 0 (fun b => decide (b < W.heap.size)) true ts vs ds ps
  | [], vs, ds, ps, _, _, h => by
    obtain ⟨rfl, rfl, rfl⟩ := trodAll_nil h
    exact trodAll_mk0
  | t :: ts, vs, ds, ps, hd, hp, h => by
    obtain ⟨v, vs', d, ds', p, q, rfl, rfl, rfl, h1, h2⟩ := trodAll_cons h
    exact ⟨p, q, Below.trod hl (hd t List.mem_cons_self).1 (hd t List.mem_cons_self).2 h1 hb (fun x hx => hp x (List.mem_append_left _ hx)),
      args_back hl hb ts (fun t ht => hd t (List.mem_cons_of_mem _ ht)) (fun x hx => hp x (List.mem_append_right _ hx)) h2, rfl⟩
theorem trodAll_len : ∀ {ts : List TypeId} {vs : List Value} {ds : List (DataW H)} {ps : List MemPlace} {sp : Nat → Bool} {hd : Bool}, DataW.TrodAll enc P W 0 sp hd ts vs ds ps → ds.length = ts.length
  | [], vs, ds, ps, _, _, h => by obtain ⟨rfl, rfl, rfl⟩ := trodAll_nil h; rfl
  | t :: ts, vs, ds, ps, _, _, h => by
    obtain ⟨v, vs', d, ds', p, q, rfl, rfl, rfl, h1, h2⟩ := trodAll_cons h
    simp [trodAll_len h2]
theorem weights_app {m : Nat} : ∀ (ts us : List TypeId) (ds : List (DataW H)), m ∈ DataW.weightsEach P ts ds → m ∈ DataW.weightsEach P (ts ++ us) ds
  | [], us, ds, h => by simp [DataW.weightsEach] at h
  | t :: ts, us, [], h => by simp [DataW.weightsEach] at h
  | t :: ts, us, d :: ds, h => by
    simp only [DataW.weightsEach, List.mem_append, List.cons_append] at h ⊢
    exact h.imp id (weights_app ts us ds)
/-- WHAT IS SAID OF A LAW's FUNCTION, AS ITS ROW ASKS IT. -/
theorem law_contract {f : Func} {k : FuncId} {s : ChangeSpec} {n tb : Nat} (hl : laidOutB P = true) (hp : ∀ t ∈ f.params.toList, P.readableRec t = true ∧ t < P.types.size) (hd : ∀ t ∈ f.params.toList, dataT P n t = true) (hvars : s.vars = []) (hres : f.resultTypes = #[tb]) (htb : P.underlying tb = some .bool)
    (hspec : ∀ ds : List (DataW H), ds.length = f.params.toList.length → s.fn H ds = { results := [.lit (.bool true)], args := ds }) (hv : ∀ xs, ArgsT P n f.params.toList xs → Valid P k (xs.map fun x => (false, x)) [.fv (.bool true)])
    {args : Array Value} {ds gs : List (DataW H)} {before : List MemPlace} (hval : ∀ (j : Nat) t v, f.params[j]? = some t → args[j]? = some v → Value.okWide P W .any base t v)
    (hW : DataW.Whole enc P f.params.toList s.vars false W args.toList ds gs before) (hwt : (DataW.weightsEach P (f.params.toList ++ s.plain.varTypes P) (ds ++ gs)).all (· ≤ reachBytes) = true) :
    Calls P k args W fun e W' => ∃ v, e = .returned v ∧ s.post enc P f false true false false W args v W' := by
  have hW' := hW
  obtain ⟨p, q, hA, hV, rfl, hfz, hnd⟩ := hW
  rw [hvars] at hV
  obtain ⟨rfl, rfl⟩ := trodVars_none hV
  obtain ⟨hlen, xs, h1, h2, h3⟩ := args_open f.params.toList hd (fun j t v ht hv => hval j t v (by simpa using ht) (by simpa using hv)) hA (fun m hm => by
    have hlen : ds.length = f.params.toList.length := trodAll_len hA
    have := List.all_eq_true.1 hwt m (by rw [List.append_nil]; exact weights_app _ _ ds hm)
    simpa using this)
  have hcall := hv xs h1 W (fun b => b < W.heap.size) (fun b => b < W.heap.size) args.toList (fun _ h => h) (fun _ h => h) (by simpa using h2.symm) (fun j x hj => by
    simp only [List.getElem?_map, Option.map_eq_some_iff] at hj
    obtain ⟨y, hy, rfl⟩ := hj
    obtain ⟨v, hv, hr⟩ := h3 j y hy
    exact ⟨v, hv, by simpa [roF] using hr⟩)
  simp only [Array.toArray_toList] at hcall
  refine hcall.mono fun e W' h => ?_
  obtain ⟨v, us, m, rfl, hb, hR⟩ := h
  refine ⟨v, rfl, ?_⟩
  obtain ⟨u, hu, hc⟩ := hR.comp 0 _ rfl
  have hus : us = [u] := by
    have := hR.len
    match us, this with
    | [u'], _ => simp only [List.getElem?_cons_zero, Option.some.injEq] at hu; rw [hu]
  have hvu : v = u := by rw [hR.val, hus]; rfl
  cases hc with
  | fv _ _ hx =>
  cases hx with
  | bool =>
  subst hvu
  have hs := hspec ds hlen
  have hlt : ∀ x ∈ p, x.block < W.heap.size := fun x hx => by simpa using hW'.lt x (List.mem_append_left _ hx)
  refine ⟨ds, [], p ++ [], [], p, [], hW', ?_, ?_, ?_, hb.frame _, fun h => by cases h⟩
  · rw [List.append_nil, hs, hres]
    exact trodAll_cons_mk (p := []) (p' := []) (shut_bool htb _) trodAll_mk0
  · rw [List.append_nil, hs]
    exact args_back hl hb _ hp hlt hA
  · rw [List.append_nil, hs, hvars]
    rfl
end
end Go.Proofs.Ytoafhoihigfllaa.E
