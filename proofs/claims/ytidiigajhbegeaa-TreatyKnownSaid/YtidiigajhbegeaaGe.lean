/-
  The engine, part 9: the row. Conditions: none.
-/
import Derived.Test.YtidiigajhbegeaaGc
import Derived.WalkKit
import Derived.ProofKit
import Derived.OpenShut
import Derived.JoinedCond
import Derived.ReadAgain
import Derived.DataShut
import Derived.Below
import Derived.Carry
import Derived.SizedLaws
namespace Go.Proofs.Ytidiigajhbegeaa.E
open Go Go.RowKit Go.ChangeShapes
set_option linter.unusedVariables false
def isStruct (P : Program) (t : Nat) : Bool := match P.underlying t with | some (.struct _) => true | some (.array _ _) => true | _ => false
/-- Fields that follow each other. -/
def consec (P : Program) (tot : Nat) : Nat → List Field → Bool
  | k, [] => k == tot
  | k, f :: r => f.offset == k && consec P tot (k + P.cellsOf f.type) r
/-- An array's elements, as fields. -/
def arrF (e c : Nat) : Nat → Nat → List Field
  | _, 0 => []
  | s, m + 1 => { name := "", type := e, offset := s * c, embedded := false, tag := "", pkgPath := "", byteOffset := 0 } :: arrF e c (s + 1) m
/-- Types of integers, bools, lists, arrays and structs of them. -/
def dataT (P : Program) : Nat → Nat → Bool
  | 0, _ => false
  | n + 1, t => match P.underlying t with
    | some (.int _) => true
    | some .bool => true
    | some .string => true
    | some (.slice e) => Nat.ble 1 (P.cellsOf e) && dataT P n e
    | some (.struct fs) => consec P (P.cellsOf t) 0 fs.toList && fs.toList.all fun f => dataT P n f.type
    | some (.array k e) => P.cellsOf t == k * P.cellsOf e && dataT P n e
    | _ => false
/-- the cells of a value of a type -/
def FVT (P : Program) : Nat → Nat → List FV → Prop
  | 0, _, _ => False
  | n + 1, t, fs => match P.underlying t with
    | some (.int k) => ∃ m, fs = [.int k m]
    | some .bool => ∃ b, fs = [.bool b]
    | some .string => ∃ s : ByteArray, fs = [.str s] ∧ s.size ≤ reachBytes
    | some (.slice e) => ∃ xs : List FV, fs = [.sl false (P.cellsOf e) xs] ∧ xs.length * P.bytesOf e ≤ reachBytes ∧ ∀ x ∈ xs, (if isStruct P e = true then ∃ gs, x = .agg gs ∧ FVT P n e gs else FVT P n e [x])
    | some (.struct fl) => ∃ gss : List (List FV), gss.length = fl.toList.length ∧ fs = gss.flatten ∧ ∀ (i : Nat) (f : Field) (g : List FV), fl.toList[i]? = some f → gss[i]? = some g → FVT P n f.type g
    | some (.array k e) => ∃ gss : List (List FV), gss.length = k ∧ fs = gss.flatten ∧ ∀ g ∈ gss, FVT P n e g
    | _ => False
section
variable {H : Type} {enc : TypeId × Value → H} {P : Program} {W W' : World} {base : Nat} {spare : Nat → Bool} {held : Bool}
theorem cell_keep (hk : ∀ b, b < W.heap.size → W'.heap[b]? = W.heap[b]?) {a : Addr} {v : Value} (h : W.cell? a = some v) : W'.cell? a = some v ∧ a.block < W.heap.size ∧ a.spot = none := by
  unfold World.cell? at h ⊢
  split at h
  · rename_i c e fr hb
    have hlt := (Array.getElem?_eq_some_iff.1 hb).1
    rw [hk _ hlt, hb]
    refine ⟨h, hlt, ?_⟩
    cases hs : a.spot with
    | none => rfl
    | some s => simp [hs] at h
  · cases h
theorem cells_keep (hk : ∀ b, b < W.heap.size → W'.heap[b]? = W.heap[b]?) {a : Addr} {n : Nat} {cs : List Value} (h : W.cells? base a n = some cs) : W'.cells? base a n = some cs := by
  obtain ⟨h1, h2, h3⟩ := World.cells?_some h
  refine World.cells?_of_each h1 h2 fun i hi => ?_
  have h4 := h3 i hi
  rw [List.getElem?_eq_getElem (by omega)] at h4 ⊢
  exact (cell_keep hk h4).1
theorem trod_array_mk {t e k n : Nat} {cs : List Value} {xs : List (DataW H × List MemPlace)} (ht : P.underlying t = some (.array k e)) (hl : cs.length = P.cellsOf t)
    (hp : (List.range k).mapM (fun i => DataW.trod enc P W base spare held n e ((cs.drop (i * P.cellsOf e)).take (P.cellsOf e))) = some xs) :
    DataW.trod enc P W base spare held (n + 1) t cs = some (.agg (xs.map (·.1)), xs.flatMap (·.2)) := by
  unfold DataW.trod
  rw [ht]
  split <;> simp_all
theorem arrF_length (e c : Nat) : ∀ (m s : Nat), (arrF e c s m).length = m
  | 0, _ => rfl
  | m + 1, s => by simp [arrF, arrF_length e c m]
theorem arrF_mem (e c : Nat) : ∀ (m s : Nat), ∀ f ∈ arrF e c s m, f.type = e ∧ ∃ i, s ≤ i ∧ i < s + m ∧ f.offset = i * c
  | 0, _, f, h => by simp [arrF] at h
  | m + 1, s, f, h => by
    simp only [arrF, List.mem_cons] at h
    rcases h with rfl | h
    · exact ⟨rfl, s, by omega, by omega, rfl⟩
    · obtain ⟨h1, i, h2, h3, h4⟩ := arrF_mem e c m (s + 1) f h
      exact ⟨h1, i, by omega, by omega, h4⟩
theorem arrF_consec (e : Nat) : ∀ (m s : Nat), consec P ((s + m) * P.cellsOf e) (s * P.cellsOf e) (arrF e (P.cellsOf e) s m) = true
  | 0, s => by simp [arrF, consec]
  | m + 1, s => by
    have ih := arrF_consec e m (s + 1)
    simp only [arrF, consec, beq_self_eq_true, Bool.true_and]
    rw [show s * P.cellsOf e + P.cellsOf e = (s + 1) * P.cellsOf e by rw [Nat.succ_mul], show s + (m + 1) = s + 1 + m by omega]
    exact ih
theorem trod_keep (hk : ∀ b, b < W.heap.size → W'.heap[b]? = W.heap[b]?) : ∀ (n t : Nat), dataT P n t = true → ∀ (fuel : Nat) (cs : List Value) (x : DataW H × List MemPlace),
    DataW.trod enc P W base spare held fuel t cs = some x → DataW.trod enc P W' base spare held fuel t cs = some x
  | 0, t, hd, _, _, _, _ => by simp [dataT] at hd
  | n + 1, t, hd, fuel, cs, x, h => by
    simp only [dataT] at hd
    split at hd
    · rename_i k ht
      obtain ⟨m, rfl, rfl, hw⟩ := DataW.trod_int ht h
      cases fuel with
      | zero => simp [DataW.trod] at h
      | succ f => simp [DataW.trod, ht, hw]
    · rename_i ht
      obtain ⟨m, rfl, rfl⟩ := DataW.trod_bool ht h
      cases fuel with
      | zero => simp [DataW.trod] at h
      | succ f => simp [DataW.trod, ht]
    · rename_i ht
      obtain ⟨m, rfl, rfl, hw⟩ := DataW.trod_string ht h
      cases fuel with
      | zero => simp [DataW.trod] at h
      | succ f => simp [DataW.trod, ht, hw]
    · rename_i e ht
      simp only [Bool.and_eq_true, Nat.ble_eq] at hd
      have key : ∀ {f : Nat} {a : Addr} {y : DataW H × List MemPlace}, (W.cells? base a (P.cellsOf e)).bind (DataW.trod enc P W base spare held f e) = some y → (W'.cells? base a (P.cellsOf e)).bind (DataW.trod enc P W' base spare held f e) = some y := fun {f a y} hy => by
        simp only [Option.bind_eq_some_iff] at hy ⊢
        obtain ⟨cs', h1, h2⟩ := hy
        exact ⟨cs', cells_keep hk h1, trod_keep hk n e hd.2 _ _ _ h2⟩
      rcases DataW.trod_slice ht h with ⟨rfl, rfl⟩ | ⟨a, len, cap, elems, rest, f, rfl, rfl, rfl, hb, hl, hm, hlen, hel, hsp, hns⟩
      · cases fuel with
        | zero => simp [DataW.trod] at h
        | succ f => simp [DataW.trod, ht]
      · have h1 : (List.range len).mapM (fun i => (W'.cells? base (a.add (i * P.cellsOf e)) (P.cellsOf e)).bind (DataW.trod enc P W' base spare held f e)) = some elems := by
          refine mapM_some_of_get _ _ (by simpa using hlen) fun i x hx => ?_
          obtain ⟨hi, rfl⟩ := List.getElem?_eq_some_iff.1 hx
          simp only [List.length_range] at hi
          have := hel i hi
          simp only [List.getElem_range]
          rw [List.getElem?_eq_getElem (by omega)] at this ⊢
          exact key this
        have h2 : (if spare a.block = true then (List.range (cap - len)).mapM (fun j => (W'.cells? base (a.add ((len + j) * P.cellsOf e)) (P.cellsOf e)).bind (DataW.trod enc P W' base spare held f e)) else some []) = some rest := by
          split
          · rename_i hs
            obtain ⟨hrl, hr⟩ := hsp hs
            refine mapM_some_of_get _ _ (by simpa using hrl) fun i x hx => ?_
            obtain ⟨hi, rfl⟩ := List.getElem?_eq_some_iff.1 hx
            simp only [List.length_range] at hi
            have := hr i hi
            simp only [List.getElem_range]
            rw [List.getElem?_eq_getElem (by omega)] at this ⊢
            exact key this
          · rename_i hs
            rw [hns (by simpa using hs)]
        unfold DataW.trod
        rw [ht]
        dsimp only
        rw [if_pos ⟨hb, hl, hm⟩, h1]
        dsimp only [Option.bind_some]
        rw [h2]
        rfl
    · rename_i fs ht
      simp only [List.all_eq_true, Bool.and_eq_true] at hd
      obtain ⟨xs, f, rfl, rfl, hl, hlen, hf⟩ := DataW.trod_struct ht h
      refine trod_struct_mk ht hl (mapM_some_of_get _ _ (by simpa using hlen) fun i g hg => ?_)
      have hgm : g ∈ fs.toList := List.mem_of_getElem? hg
      have := hf i g (by simpa using hg)
      have hi : i < xs.length := by
        have := (List.getElem?_eq_some_iff.1 hg).1
        simpa [hlen] using this
      rw [List.getElem?_eq_getElem hi] at this ⊢
      exact trod_keep hk n g.type (hd.2 g hgm) _ _ _ this
    · rename_i k e ht
      simp only [Bool.and_eq_true] at hd
      obtain ⟨xs, f, rfl, rfl, hl, hlen, hf⟩ := DataW.trod_array ht h
      refine trod_array_mk ht hl (mapM_some_of_get _ _ (by simpa using hlen) fun i g hg => ?_)
      obtain ⟨hi, rfl⟩ := List.getElem?_eq_some_iff.1 hg
      simp only [List.length_range] at hi
      have := hf i hi
      simp only [List.getElem_range]
      rw [List.getElem?_eq_getElem (by omega)] at this ⊢
      exact trod_keep hk n e hd.2 _ _ _ this
    · cases hd
theorem add_none (b o i j : Nat) : ((⟨b, o, none⟩ : Addr).add i).add j = ⟨b, o + (i + j), none⟩ := by
  unfold Addr.add
  by_cases h1 : i = 0 <;> by_cases h2 : j = 0 <;> simp [h1, h2, Nat.add_assoc]
theorem FVT_single {n t : Nat} {fs : List FV} (h : FVT P n t fs) (hs : isStruct P t = false) : ∃ g, fs = [g] := by
  cases n with
  | zero => exact h.elim
  | succ n =>
    simp only [FVT] at h
    split at h
    · obtain ⟨m, rfl⟩ := h; exact ⟨_, rfl⟩
    · obtain ⟨m, rfl⟩ := h; exact ⟨_, rfl⟩
    · obtain ⟨m, rfl, _⟩ := h; exact ⟨_, rfl⟩
    · obtain ⟨m, rfl, _⟩ := h; exact ⟨_, rfl⟩
    · rename_i ht; simp [isStruct, ht] at hs
    · rename_i ht; simp [isStruct, ht] at hs
    · exact h.elim
theorem weights_all {e : TypeId} {m : Nat} : ∀ {l : List (DataW H)} {d : DataW H}, d ∈ l → m ∈ d.weights P e → m ∈ DataW.weightsAll P e l
  | x :: r, d, hd, hm => by
    simp only [DataW.weightsAll, List.mem_append]
    rcases List.mem_cons.1 hd with rfl | hd
    · exact .inl hm
    · exact .inr (weights_all hd hm)
theorem fields_rep {n : Nat} {cs : List Value} (ih : ∀ (t : Nat), dataT P n t = true → ∀ (fuel : Nat) (cs : List Value) (x : DataW H × List MemPlace), DataW.trod enc P W base spare held fuel t cs = some x → (∀ m ∈ x.1.weights P t, m ≤ reachBytes) →
    ∃ fs : List FV, FVT P n t fs ∧ fs.length = cs.length ∧ (∀ y ∈ fs, nagg y = true) ∧ ∀ (j : Nat) (y : FV), fs[j]? = some y → RepF (fun b => b < W.heap.size) W y (cs.getD j undef)) {fuel : Nat} :
    ∀ (fl : List Field) (k : Nat), consec P cs.length k fl = true → (∀ f ∈ fl, dataT P n f.type = true) → (∀ f ∈ fl, ∃ y, DataW.trod enc P W base spare held fuel f.type ((cs.drop f.offset).take (P.cellsOf f.type)) = some y ∧ ∀ m ∈ y.1.weights P f.type, m ≤ reachBytes) →
      k ≤ cs.length ∧ ∃ gss : List (List FV), gss.length = fl.length ∧ (∀ (i : Nat) (f : Field) (g : List FV), fl[i]? = some f → gss[i]? = some g → FVT P n f.type g) ∧ k + gss.flatten.length = cs.length ∧ (∀ y ∈ gss.flatten, nagg y = true) ∧
        ∀ (j : Nat) (y : FV), gss.flatten[j]? = some y → RepF (fun b => b < W.heap.size) W y (cs.getD (k + j) undef)
  | [], k, hc, _, _ => by
    simp only [consec, beq_iff_eq] at hc
    exact ⟨by omega, [], rfl, by simp, by simpa using hc, by simp, by simp⟩
  | f :: r, k, hc, hd, hf => by
    simp only [consec, Bool.and_eq_true, beq_iff_eq] at hc
    obtain ⟨ho, hc⟩ := hc
    obtain ⟨hle, gss, g1, g2, g3, g4, g5⟩ := fields_rep ih r _ hc (fun g hg => hd g (List.mem_cons_of_mem _ hg)) (fun g hg => hf g (List.mem_cons_of_mem _ hg))
    obtain ⟨y, hy, hyw⟩ := hf f List.mem_cons_self
    obtain ⟨fs, e1, e2, e3, e4⟩ := ih f.type (hd f List.mem_cons_self) _ _ _ hy hyw
    rw [ho] at e2 e4
    have hlen : fs.length = P.cellsOf f.type := by rw [e2]; simp; omega
    refine ⟨by omega, fs :: gss, by simp [g1], fun i g x hg hx => ?_, by simp only [List.flatten_cons, List.length_append]; omega, fun y hy => ?_, fun j y hj => ?_⟩
    · cases i with
      | zero =>
        simp only [List.getElem?_cons_zero, Option.some.injEq] at hg hx
        subst hg hx; exact e1
      | succ i => exact g2 i g x (by simpa using hg) (by simpa using hx)
    · simp only [List.flatten_cons, List.mem_append] at hy
      exact hy.elim (e3 y) (g4 y)
    · simp only [List.flatten_cons] at hj
      by_cases hlt : j < fs.length
      · rw [List.getElem?_append_left hlt] at hj
        have := e4 j y hj
        have hg : ((cs.drop k).take (P.cellsOf f.type)).getD j undef = cs.getD (k + j) undef := by
          simp only [List.getD_eq_getElem?_getD]
          rw [List.getElem?_take_of_lt (by omega), List.getElem?_drop]
        rw [← hg]; exact this
      · rw [List.getElem?_append_right (by omega)] at hj
        have := g5 _ y hj
        rw [show k + P.cellsOf f.type + (j - fs.length) = k + j by omega] at this
        exact this
theorem trod_rep : ∀ (n t : Nat), dataT P n t = true → ∀ (fuel : Nat) (cs : List Value) (x : DataW H × List MemPlace), DataW.trod enc P W base spare held fuel t cs = some x → (∀ m ∈ x.1.weights P t, m ≤ reachBytes) →
    ∃ fs : List FV, FVT P n t fs ∧ fs.length = cs.length ∧ (∀ y ∈ fs, nagg y = true) ∧ ∀ (j : Nat) (y : FV), fs[j]? = some y → RepF (fun b => b < W.heap.size) W y (cs.getD j undef)
  | 0, t, hd, _, _, _, _, _ => by simp [dataT] at hd
  | n + 1, t, hd, fuel, cs, x, h, hwt => by
    simp only [dataT] at hd
    split at hd
    · rename_i k ht
      obtain ⟨m, rfl, rfl, hw⟩ := DataW.trod_int ht h
      refine ⟨[.int k m], by simp only [FVT, ht]; exact ⟨m, rfl⟩, rfl, by simp [nagg], fun j y hj => ?_⟩
      cases j with
      | zero => simp only [List.getElem?_cons_zero, Option.some.injEq] at hj; subst hj; exact .int _ _
      | succ j => simp at hj
    · rename_i ht
      obtain ⟨m, rfl, rfl⟩ := DataW.trod_bool ht h
      refine ⟨[.bool m], by simp only [FVT, ht]; exact ⟨m, rfl⟩, rfl, by simp [nagg], fun j y hj => ?_⟩
      cases j with
      | zero => simp only [List.getElem?_cons_zero, Option.some.injEq] at hj; subst hj; exact .bool _
      | succ j => simp at hj
    · rename_i ht
      obtain ⟨m, rfl, rfl, hw⟩ := DataW.trod_string ht h
      have hm : m.size ≤ reachBytes := by
        have := hwt m.data.toList.length (by simp [DataW.weights])
        simpa using this
      refine ⟨[.str m], by simp only [FVT, ht]; exact ⟨m, rfl, hm⟩, rfl, by simp [nagg], fun j y hj => ?_⟩
      cases j with
      | zero => simp only [List.getElem?_cons_zero, Option.some.injEq] at hj; subst hj; exact .str _
      | succ j => simp at hj
    · rename_i e ht
      simp only [Bool.and_eq_true, Nat.ble_eq] at hd
      rcases DataW.trod_slice ht h with ⟨rfl, rfl⟩ | ⟨a, len, cap, elems, rest, f, rfl, rfl, rfl, hb, hl, hm, hlen, hel, hsp, hns⟩
      · refine ⟨[.sl false (P.cellsOf e) []], by simp only [FVT, ht]; exact ⟨[], rfl, by simp, by simp⟩, rfl, by simp [nagg], fun j y hj => ?_⟩
        cases j with
        | zero => simp only [List.getElem?_cons_zero, Option.some.injEq] at hj; subst hj; exact .sl0 _ _ _ _ (by simp)
        | succ j => simp at hj
      · have each : ∀ i, ∃ x : FV, i < len → (if isStruct P e = true then ∃ gs, x = .agg gs ∧ FVT P n e gs else FVT P n e [x]) ∧ (cellsOf x).length = P.cellsOf e ∧ (cellsOf x).all nagg = true ∧
            ∀ (j : Nat) (y : FV), (cellsOf x)[j]? = some y → ∃ v, W.cell? ((a.add (i * P.cellsOf e)).add j) = some v ∧ RepF (fun b => b < W.heap.size) W y v := fun i => by
          by_cases hi : i < len
          · have h1 := hel i hi
            rw [List.getElem?_eq_getElem (by omega)] at h1
            simp only [Option.bind_eq_some_iff] at h1
            obtain ⟨cs', h2, h3⟩ := h1
            obtain ⟨gs, g1, g2, g3, g4⟩ := trod_rep n e hd.2 _ _ _ h3 (fun m hm => hwt m (by
              simp only [DataW.weights, ht, List.mem_cons, List.mem_append]
              exact .inr (.inl (weights_all (List.mem_map.2 ⟨_, List.getElem_mem _, rfl⟩) hm))))
            obtain ⟨c1, c2, c3⟩ := World.cells?_some h2
            have hcell : ∀ (j : Nat) (y : FV), gs[j]? = some y → ∃ v, W.cell? ((a.add (i * P.cellsOf e)).add j) = some v ∧ RepF (fun b => b < W.heap.size) W y v := fun j y hj => by
              have hjl : j < cs'.length := by rw [← g2]; exact (List.getElem?_eq_some_iff.1 hj).1
              have h4 := g4 j y hj
              have h5 := c3 j (by omega)
              rw [List.getElem?_eq_getElem hjl] at h5
              rw [List.getD_eq_getElem?_getD, List.getElem?_eq_getElem hjl] at h4
              exact ⟨_, h5, h4⟩
            cases hs : isStruct P e with
            | true =>
              exact ⟨.agg gs, fun _ => ⟨⟨gs, rfl, g1⟩, by simp only [cellsOf]; omega, by simp only [cellsOf, List.all_eq_true]; exact g3, hcell⟩⟩
            | false =>
              obtain ⟨g, rfl⟩ := FVT_single g1 hs
              have hg := g3 g (by simp)
              have hc : cellsOf g = [g] := by cases g <;> first | rfl | simp [nagg] at hg
              refine ⟨g, fun _ => ⟨by simpa using g1, by rw [hc]; omega, by rw [hc]; simpa using hg, by rw [hc]; exact hcell⟩⟩
          · exact ⟨.nilpt, fun h => absurd h hi⟩
        obtain ⟨g, hg⟩ : ∃ g : Nat → FV, ∀ i, i < len → (if isStruct P e = true then ∃ gs, g i = .agg gs ∧ FVT P n e gs else FVT P n e [g i]) ∧ (cellsOf (g i)).length = P.cellsOf e ∧ (cellsOf (g i)).all nagg = true ∧
            ∀ (j : Nat) (y : FV), (cellsOf (g i))[j]? = some y → ∃ v, W.cell? ((a.add (i * P.cellsOf e)).add j) = some v ∧ RepF (fun b => b < W.heap.size) W y v :=
          ⟨fun i => Classical.choose (each i), fun i => Classical.choose_spec (each i)⟩
        refine ⟨[.sl false (P.cellsOf e) ((List.range len).map g)], by
          simp only [FVT, ht]
          refine ⟨_, rfl, by
            have := hwt ((elems.length + rest.length) * P.bytesOf e) (by simp [DataW.weights, ht])
            refine Nat.le_trans (Nat.mul_le_mul_right _ ?_) this
            simp; omega, fun x hx => ?_⟩
          simp only [List.mem_map, List.mem_range] at hx
          obtain ⟨i, hi, rfl⟩ := hx
          exact (hg i hi).1, rfl, by simp [nagg], fun j y hj => ?_⟩
        cases j with
        | succ j => simp at hj
        | zero =>
        simp only [List.getElem?_cons_zero, Option.some.injEq] at hj; subst hj
        have hgt : ([Value.slice (some a) len cap] : List Value).getD 0 undef = .slice (some a) len cap := rfl
        rw [hgt]
        have hget : ∀ (i : Nat) (x : FV), ((List.range len).map g)[i]? = some x → i < len ∧ x = g i := fun i x hx => by
          simp only [List.getElem?_map, Option.map_eq_some_iff] at hx
          obtain ⟨k, hk, rfl⟩ := hx
          obtain ⟨hk1, hk2⟩ := List.getElem?_eq_some_iff.1 hk
          simp only [List.getElem_range] at hk2
          subst hk2
          exact ⟨by simpa using hk1, rfl⟩
        by_cases h0 : len = 0
        · subst h0
          exact .sl0 _ _ _ _ (by simp)
        · obtain ⟨b, o, sp⟩ := a
          have hfirst : b < W.heap.size ∧ sp = none := by
            obtain ⟨_, k2, _, k4⟩ := hg 0 (by omega)
            have : 0 < (cellsOf (g 0)).length := by omega
            obtain ⟨v, hv, _⟩ := k4 0 _ (List.getElem?_eq_getElem this)
            rw [show ((⟨b, o, sp⟩ : Addr).add (0 * P.cellsOf e)).add 0 = ⟨b, o, sp⟩ by simp [Addr.add]] at hv
            obtain ⟨_, e1, e2⟩ := cell_keep (W' := W) (fun _ _ => rfl) hv
            exact ⟨e1, e2⟩
          obtain ⟨hb1, rfl⟩ := hfirst
          refine .sl false (P.cellsOf e) _ b o len cap (fun i j => (W.cell? ⟨b, o + (i * P.cellsOf e + j), none⟩).getD undef) (by simp) hl (by simp) hb1 (fun i x hx => ?_) (fun i x j y hx hy => ?_) (fun i x j y hx hy => ?_)
          · obtain ⟨hi, rfl⟩ := hget i x hx
            obtain ⟨_, k2, k3, _⟩ := hg i hi
            simp only [cellsOK, Bool.and_eq_true, beq_iff_eq]
            exact ⟨k2, k3⟩
          · obtain ⟨hi, rfl⟩ := hget i x hx
            obtain ⟨v, hv, _⟩ := (hg i hi).2.2.2 j y hy
            rw [add_none] at hv
            rw [hv]; rfl
          · obtain ⟨hi, rfl⟩ := hget i x hx
            obtain ⟨v, hv, hr⟩ := (hg i hi).2.2.2 j y hy
            rw [add_none] at hv
            rw [hv]; exact hr
    · rename_i fs ht
      simp only [List.all_eq_true, Bool.and_eq_true] at hd
      obtain ⟨xs, f, rfl, rfl, hl, hlen, hf⟩ := DataW.trod_struct ht h
      obtain ⟨_, gss, g1, g2, g3, g4, g5⟩ := fields_rep (n := n) (cs := cs) (fuel := f) (trod_rep n) fs.toList 0 (by rw [hl]; exact hd.1) hd.2 (fun g hg => by
        obtain ⟨i, hi, rfl⟩ := List.getElem_of_mem hg
        have h1 := hf i fs.toList[i] (by simp at hi ⊢)
        rw [List.getElem?_eq_getElem (by simpa [hlen] using hi)] at h1
        exact ⟨_, h1, fun m hm => hwt m (by
          simp only [DataW.weights, ht]
          exact DataW.weights_mem_each (j := i) (t := fs.toList[i].type) (d := (xs[i]'(by simpa [hlen] using hi)).1) (by simp [List.getElem?_eq_getElem hi]) (by simp [List.getElem?_eq_getElem (show i < xs.length by simpa [hlen] using hi)]) m hm)⟩)
      exact ⟨gss.flatten, by simp only [FVT, ht]; exact ⟨gss, g1, rfl, g2⟩, by omega, g4, by simpa using g5⟩
    · rename_i k e ht
      simp only [Bool.and_eq_true, beq_iff_eq] at hd
      obtain ⟨xs, f, rfl, rfl, hl, hlen, hf⟩ := DataW.trod_array ht h
      obtain ⟨_, gss, g1, g2, g3, g4, g5⟩ := fields_rep (n := n) (cs := cs) (fuel := f) (trod_rep n) (arrF e (P.cellsOf e) 0 k) 0 (by
          have := arrF_consec (P := P) e k 0
          rw [hl, hd.1]
          simpa using this) (fun g hg => by rw [(arrF_mem e _ k 0 g hg).1]; exact hd.2) (fun g hg => by
        obtain ⟨e1, i, _, hi, e2⟩ := arrF_mem e _ k 0 g hg
        have hi : i < k := by omega
        have h1 := hf i hi
        rw [List.getElem?_eq_getElem (by omega)] at h1
        rw [e1, e2]
        exact ⟨_, h1, fun m hm => hwt m (by
          simp only [DataW.weights, ht]
          exact weights_all (List.mem_map.2 ⟨_, List.getElem_mem _, rfl⟩) hm)⟩)
      rw [arrF_length] at g1
      refine ⟨gss.flatten, by
        simp only [FVT, ht]
        refine ⟨gss, g1, rfl, fun g hg => ?_⟩
        obtain ⟨i, hi, rfl⟩ := List.getElem_of_mem hg
        have hi2 : i < (arrF e (P.cellsOf e) 0 k).length := by rw [arrF_length]; omega
        have := g2 i _ _ (List.getElem?_eq_getElem hi2) (List.getElem?_eq_getElem hi)
        rw [(arrF_mem e _ k 0 _ (List.getElem_mem hi2)).1] at this
        exact this, by omega, g4, by simpa using g5⟩
    · cases hd
def argFV (P : Program) (t : Nat) (fs : List FV) : FV := if isStruct P t = true then .agg fs else fs.headD .nilpt
structure IsT (P : Program) (n t : Nat) (fs : List FV) : Prop where
  h : FVT P n t fs
def ArgsT (P : Program) (n : Nat) : List TypeId → List FV → Prop
  | [], xs => xs = []
  | t :: ts, xs => ∃ fs ys, xs = argFV P t fs :: ys ∧ IsT P n t fs ∧ ArgsT P n ts ys
open Go.WideShapes in
theorem arg_rep {n t : Nat} (hd : dataT P n t = true) {v : Value} {d : DataW H} {ps : List MemPlace} {r : Reach} {b0 : Nat} (hv : Value.okWide P W r b0 t v) (h : DataW.Trod enc P W base spare held t v d ps) (hw : ∀ m ∈ d.weights P t, m ≤ reachBytes) :
    ∃ fs, FVT P n t fs ∧ RepF (fun b => b < W.heap.size) W (argFV P t fs) v := by
  obtain ⟨fuel, h⟩ := h
  obtain ⟨fs, h1, h2, h3, h4⟩ := trod_rep n t hd _ _ _ h hw
  refine ⟨fs, h1, ?_⟩
  cases hs : isStruct P t with
  | true =>
    simp only [argFV, hs, if_true]
    unfold isStruct at hs
    split at hs
    · rename_i fl ht
      obtain ⟨cs, rfl, hsz⟩ := okWide_struct ht hv
      refine .agg fs cs (by simpa [Value.cells] using h2.symm) fun j y hj => ?_
      have := h4 j y hj
      simpa [Value.cells, Array.getD_eq_getD_getElem?, List.getD_eq_getElem?_getD] using this
    · rename_i k e ht
      obtain ⟨cs, rfl, hsz, _⟩ : ∃ cs, v = .agg cs ∧ cs.size = P.cellsOf t ∧ Row.okWide P W r b0 t cs := by
        simpa only [Value.okWide, ht] using hv
      refine .agg fs cs (by simpa [Value.cells] using h2.symm) fun j y hj => ?_
      have := h4 j y hj
      simpa [Value.cells, Array.getD_eq_getD_getElem?, List.getD_eq_getElem?_getD] using this
    · cases hs
  | false =>
    obtain ⟨g, rfl⟩ := FVT_single h1 hs
    simp only [argFV, hs, Bool.false_eq_true, if_false, List.headD_cons]
    have hg := h4 0 g rfl
    have hc : v.cells = #[v] := by
      cases n with
      | zero => simp [dataT] at hd
      | succ n =>
        simp only [dataT] at hd
        split at hd
        · rename_i ht; obtain ⟨m, rfl⟩ := okWide_int ht hv; rfl
        · rename_i ht; obtain ⟨m, rfl⟩ := okWide_bool ht hv; rfl
        · rename_i ht; obtain ⟨m, rfl⟩ := okWide_string ht hv; rfl
        · rename_i ht; obtain ⟨a, l, c, rfl⟩ := okWide_slice ht hv; rfl
        · rename_i ht; simp [isStruct, ht] at hs
        · rename_i ht; simp [isStruct, ht] at hs
        · cases hd
    rw [hc] at hg
    exact hg
theorem args_open {n : Nat} : ∀ (ts : List TypeId) {vs : List Value} {ds : List (DataW H)} {ps : List MemPlace}, (∀ t ∈ ts, dataT P n t = true) → (∀ (j : Nat) t v, ts[j]? = some t → vs[j]? = some v → Value.okWide P W .any base t v) →
    DataW.TrodAll enc P W 0 (fun _ => true) true ts vs ds ps → (∀ m ∈ DataW.weightsEach P ts ds, m ≤ reachBytes) →
    ds.length = ts.length ∧ ∃ xs, ArgsT P n ts xs ∧ xs.length = vs.length ∧ ∀ (j : Nat) (x : FV), xs[j]? = some x → ∃ v, vs[j]? = some v ∧ RepF (fun b => b < W.heap.size) W x v
  | [], vs, ds, ps, _, _, h, _ => by
    obtain ⟨rfl, rfl, rfl⟩ := trodAll_nil h
    exact ⟨rfl, [], rfl, rfl, by simp⟩
  | t :: ts, vs, ds, ps, hd, hv, h, hw => by
    obtain ⟨v, vs', d, ds', p, q, rfl, rfl, rfl, h1, h2⟩ := trodAll_cons h
    obtain ⟨e1, xs, e2, e3, e4⟩ := args_open ts (fun t ht => hd t (List.mem_cons_of_mem _ ht)) (fun j t v h1 h2 => hv (j + 1) t v (by simpa using h1) (by simpa using h2)) h2 (fun m hm => hw m (by simp only [DataW.weightsEach, List.mem_append]; exact .inr hm))
    obtain ⟨fs, f1, f2⟩ := arg_rep (hd t List.mem_cons_self) (hv 0 t v rfl rfl) h1 (fun m hm => hw m (by simp only [DataW.weightsEach, List.mem_append]; exact .inl hm))
    refine ⟨by simp [e1], argFV P t fs :: xs, ⟨fs, xs, rfl, ⟨f1⟩, e2⟩, by simp [e3], fun j x hj => ?_⟩
    cases j with
    | zero => simp only [List.getElem?_cons_zero, Option.some.injEq] at hj; subst hj; exact ⟨v, rfl, f2⟩
    | succ j => simpa using e4 j x (by simpa using hj)
theorem args_back (hl : laidOutB P = true) (hb : Below W.heap.size W W') : ∀ (ts : List TypeId) {vs : List Value} {ds : List (DataW H)} {ps : List MemPlace}, (∀ t ∈ ts, P.readableRec t = true ∧ t < P.types.size) → (∀ x ∈ ps, x.block < W.heap.size) →
    DataW.TrodAll enc P W 0 (fun _ => true) true ts vs ds ps → DataW.TrodAll enc P W' 0 (fun b => decide (b < W.heap.size)) true ts vs ds ps
  | [], vs, ds, ps, _, _, h => by
    obtain ⟨rfl, rfl, rfl⟩ := trodAll_nil h
    exact trodAll_mk0
  | t :: ts, vs, ds, ps, hd, hp, h => by
    obtain ⟨v, vs', d, ds', p, q, rfl, rfl, rfl, h1, h2⟩ := trodAll_cons h
    exact ⟨p, q, Below.trod hl (hd t List.mem_cons_self).1 (hd t List.mem_cons_self).2 h1 hb (fun x hx => hp x (List.mem_append_left _ hx)),
      args_back hl hb ts (fun t ht => hd t (List.mem_cons_of_mem _ ht)) (fun x hx => hp x (List.mem_append_right _ hx)) h2, rfl⟩
theorem trodAll_len : ∀ {ts : List TypeId} {vs : List Value} {ds : List (DataW H)} {ps : List MemPlace} {sp : Nat → Bool} {hd : Bool}, DataW.TrodAll enc P W 0 sp hd ts vs ds ps → ds.length = ts.length
  | [], vs, ds, ps, _, _, h => by obtain ⟨rfl, rfl, rfl⟩ := trodAll_nil h; rfl
  | t :: ts, vs, ds, ps, _, _, h => by
    obtain ⟨v, vs', d, ds', p, q, rfl, rfl, rfl, h1, h2⟩ := trodAll_cons h
    simp [trodAll_len h2]
theorem weights_app {m : Nat} : ∀ (ts us : List TypeId) (ds : List (DataW H)), m ∈ DataW.weightsEach P ts ds → m ∈ DataW.weightsEach P (ts ++ us) ds
  | [], us, ds, h => by simp [DataW.weightsEach] at h
  | t :: ts, us, [], h => by simp [DataW.weightsEach] at h
  | t :: ts, us, d :: ds, h => by
    simp only [DataW.weightsEach, List.mem_append, List.cons_append] at h ⊢
    exact h.imp id (weights_app ts us ds)
/-- WHAT IS SAID OF A LAW's FUNCTION, AS ITS ROW ASKS IT. -/
theorem law_contract {f : Func} {k : FuncId} {s : ChangeSpec} {n tb : Nat} (hl : laidOutB P = true) (hp : ∀ t ∈ f.params.toList, P.readableRec t = true ∧ t < P.types.size) (hd : ∀ t ∈ f.params.toList, dataT P n t = true) (hvars : s.vars = []) (hres : f.resultTypes = #[tb]) (htb : P.underlying tb = some .bool)
    (hspec : ∀ ds : List (DataW H), ds.length = f.params.toList.length → s.fn H ds = { results := [.lit (.bool true)], args := ds }) (hv : ∀ xs, ArgsT P n f.params.toList xs → Valid P k (xs.map fun x => (false, x)) [.fv (.bool true)])
    {args : Array Value} {ds gs : List (DataW H)} {before : List MemPlace} (hval : ∀ (j : Nat) t v, f.params[j]? = some t → args[j]? = some v → Value.okWide P W .any base t v)
    (hW : DataW.Whole enc P f.params.toList s.vars false W args.toList ds gs before) (hwt : (DataW.weightsEach P (f.params.toList ++ s.plain.varTypes P) (ds ++ gs)).all (· ≤ reachBytes) = true)
    (hgl : GlOk (fun b => b < W.heap.size) W) :
    Calls P k args W fun e W' => ∃ v, e = .returned v ∧ s.post enc P f false true false false W args v W' := by
  have hW' := hW
  obtain ⟨p, q, hA, hV, rfl, hfz, hnd⟩ := hW
  rw [hvars] at hV
  obtain ⟨rfl, rfl⟩ := trodVars_none hV
  obtain ⟨hlen, xs, h1, h2, h3⟩ := args_open f.params.toList hd (fun j t v ht hv => hval j t v (by simpa using ht) (by simpa using hv)) hA (fun m hm => by
    have hlen : ds.length = f.params.toList.length := trodAll_len hA
    have := List.all_eq_true.1 hwt m (by rw [List.append_nil]; exact weights_app _ _ ds hm)
    simpa using this)
  have hcall := hv xs h1 W (fun b => b < W.heap.size) (fun b => b < W.heap.size) args.toList (fun _ h => h) (fun _ h => h) (by simpa using h2.symm) (fun j x hj => by
    simp only [List.getElem?_map, Option.map_eq_some_iff] at hj
    obtain ⟨y, hy, rfl⟩ := hj
    obtain ⟨v, hv, hr⟩ := h3 j y hy
    exact ⟨v, hv, by simpa [roF] using hr⟩) hgl
  simp only [Array.toArray_toList] at hcall
  refine hcall.mono fun e W' h => ?_
  obtain ⟨v, us, m, rfl, hb, hR⟩ := h
  refine ⟨v, rfl, ?_⟩
  obtain ⟨u, hu, hc⟩ := hR.comp 0 _ rfl
  have hus : us = [u] := by
    have := hR.len
    match us, this with
    | [u'], _ => simp only [List.getElem?_cons_zero, Option.some.injEq] at hu; rw [hu]
  have hvu : v = u := by rw [hR.val, hus]; rfl
  cases hc with
  | fv _ _ hx =>
  cases hx with
  | bool =>
  subst hvu
  have hs := hspec ds hlen
  have hlt : ∀ x ∈ p, x.block < W.heap.size := fun x hx => by simpa using hW'.lt x (List.mem_append_left _ hx)
  refine ⟨ds, [], p ++ [], [], p, [], hW', ?_, ?_, ?_, hb.frame _, fun h => by cases h⟩
  · rw [List.append_nil, hs, hres]
    exact trodAll_cons_mk (p := []) (p' := []) (shut_bool htb _) trodAll_mk0
  · rw [List.append_nil, hs]
    exact args_back hl hb _ hp hlt hA
  · rw [List.append_nil, hs, hvars]
    rfl
end
end Go.Proofs.Ytidiigajhbegeaa.E
namespace Go.Proofs.Ytidiigajhbegeaa.E
open Go Go.RowKit
set_option linter.unusedVariables false
/-- What is said of a function at arguments of a form. -/
structure Fam (P : Program) where
  k : FuncId
  α : Type
  f : α → List (Bool × FV)
  g : α → List TV
  inj : ∀ a b, f a = f b → g a = g b
  ok : ∀ a, Valid P k (f a) (g a)
  en : Enters P k
section
variable {P : Program}
open Classical in
noncomputable def famAt (F : Fam P) (xs : List (Bool × FV)) : Option (List TV) := if h : ∃ a, F.f a = xs then some (F.g (Classical.choose h)) else none
noncomputable def famCtx : List (Fam P) → FuncId → List (Bool × FV) → Option (List TV)
  | [], _, _ => none
  | F :: r, k, xs => if F.k = k then famAt F xs else famCtx r k xs
theorem famAt_hit (F : Fam P) (a : F.α) : famAt F (F.f a) = some (F.g a) := by
  unfold famAt
  have h : ∃ b, F.f b = F.f a := ⟨a, rfl⟩
  rw [dif_pos h]
  exact congrArg some (F.inj _ _ (Classical.choose_spec h))
theorem famAt_ok {F : Fam P} {xs : List (Bool × FV)} {res : List TV} (h : famAt F xs = some res) : Valid P F.k xs res ∧ Enters P F.k := by
  unfold famAt at h
  split at h
  · rename_i he
    simp only [Option.some.injEq] at h; subst h
    have hs := Classical.choose_spec he
    refine ⟨?_, F.en⟩
    have := F.ok (Classical.choose he)
    rw [hs] at this
    exact this
  · cases h
theorem fam_ok : ∀ {L : List (Fam P)} {k : FuncId} {xs : List (Bool × FV)} {res : List TV}, famCtx L k xs = some res → Valid P k xs res ∧ Enters P k
  | [], _, _, _, h => by simp [famCtx] at h
  | F :: r, k, xs, res, h => by
    simp only [famCtx] at h
    split at h
    · rename_i e; subst e; exact famAt_ok h
    · exact fam_ok h
theorem fam_hit {F : Fam P} {r : List (Fam P)} {k : FuncId} {xs : List (Bool × FV)} {res : List TV} (a : F.α) (hk : F.k = k) (hf : F.f a = xs) (hg : F.g a = res) : famCtx (F :: r) k xs = some res := by
  subst hk hf hg
  simp only [famCtx, if_true]
  exact famAt_hit F a
theorem fam_at : ∀ {L : List (Fam P)} {F : Fam P} {k : FuncId} {xs : List (Bool × FV)} {res : List TV} (h : L.find? (fun G => G.k == k) = some F) (a : F.α) (hf : F.f a = xs) (hg : F.g a = res), famCtx L k xs = some res
  | [], F, k, xs, res, h, _, _, _ => by simp at h
  | G :: r, F, k, xs, res, h, a, hf, hg => by
    simp only [List.find?_cons] at h
    split at h
    · rename_i hk
      simp only [Option.some.injEq] at h; subst h
      exact fam_hit a (by simpa using hk) hf hg
    · rename_i hk
      simp only [famCtx]
      rw [if_neg (by simpa using hk)]
      exact fam_at h a hf hg
theorem fam_skip {F : Fam P} {r : List (Fam P)} {k : FuncId} {xs : List (Bool × FV)} {o : Option (List TV)} (hk : (F.k == k) = false) (h : famCtx r k xs = o) : famCtx (F :: r) k xs = o := by
  simp only [famCtx]
  rw [if_neg (by simpa using hk)]
  exact h
end
theorem ints_inj {l m : List Int} : ints l = ints m ↔ l = m := by
  constructor
  · intro h
    induction l generalizing m with
    | nil => cases m with
      | nil => rfl
      | cons y m => simp at h
    | cons x l ih => cases m with
      | nil => simp at h
      | cons y m =>
        simp only [ints_cons, List.cons.injEq, FV.int.injEq, true_and] at h
        obtain ⟨h1, h2⟩ := h
        rw [h1, ih h2]
  · rintro rfl; rfl
section
variable {P : Program}
theorem IsT_int {n t : Nat} {k : IntKind} {fs : List FV} (ht : P.underlying t = some (.int k)) (h : IsT P (n + 1) t fs) : ∃ m, fs = [.int k m] := by
  have h := h.h
  simp only [FVT, ht] at h
  exact h
theorem IsT_list {n t e : Nat} {fs : List FV} (ht : P.underlying t = some (.slice e)) (h : IsT P (n + 1) t fs) : ∃ xs : List FV, fs = [.sl false (P.cellsOf e) xs] ∧ xs.length * P.bytesOf e ≤ reachBytes ∧ ∀ x ∈ xs, (isStruct P e = true ∧ ∃ gs, x = .agg gs ∧ IsT P n e gs) ∨ (isStruct P e = false ∧ IsT P n e [x]) := by
  have h := h.h
  simp only [FVT, ht] at h
  obtain ⟨xs, h1, h2, h3⟩ := h
  refine ⟨xs, h1, h2, fun x hx => ?_⟩
  have h4 := h3 x hx
  cases hs : isStruct P e with
  | true =>
    rw [if_pos hs] at h4
    obtain ⟨gs, e1, e2⟩ := h4
    exact .inl ⟨rfl, gs, e1, ⟨e2⟩⟩
  | false =>
    rw [if_neg (by simp [hs])] at h4
    exact .inr ⟨rfl, ⟨h4⟩⟩
theorem IsT_ints {n t e : Nat} {fs : List FV} (ht : P.underlying t = some (.slice e)) (he : P.underlying e = some (.int .i64)) (hc : P.cellsOf e = 1) (hb : P.bytesOf e = 8) (h : IsT P (n + 2) t fs) : ∃ l, fs = [.sl false 1 (ints l)] ∧ l.length < 2^62 := by
  obtain ⟨xs, rfl, hl, hx⟩ := IsT_list ht h
  have hs : isStruct P e = false := by simp [isStruct, he]
  have hx' : ∀ x ∈ xs, ∃ m, x = .int .i64 m := fun x hm => by
    rcases hx x hm with ⟨h1, _⟩ | ⟨_, h1⟩
    · rw [hs] at h1; cases h1
    · obtain ⟨m, hm⟩ := IsT_int he h1
      exact ⟨m, by simpa using hm⟩
  have key : ∃ l, xs = ints l := by
    clear hl hx h
    induction xs with
    | nil => exact ⟨[], rfl⟩
    | cons x r ih =>
      obtain ⟨l, hl⟩ := ih fun y hy => hx' y (List.mem_cons_of_mem _ hy)
      obtain ⟨m, hm⟩ := hx' x List.mem_cons_self
      exact ⟨m :: l, by rw [hm, hl]; rfl⟩
  obtain ⟨l, rfl⟩ := key
  refine ⟨l, by rw [hc], ?_⟩
  rw [hb, ints_length, reachBytes] at hl
  omega
theorem IsT_pair {n t : Nat} {f0 f1 : Field} {fs : List FV} (ht : P.underlying t = some (.struct #[f0, f1])) (h : IsT P (n + 1) t fs) : ∃ g0 g1, fs = g0 ++ g1 ∧ IsT P n f0.type g0 ∧ IsT P n f1.type g1 := by
  have h := h.h
  simp only [FVT, ht] at h
  obtain ⟨gss, hl, rfl, hf⟩ := h
  match gss, hl with
  | [g0, g1], _ => exact ⟨g0, g1, by simp, ⟨hf 0 f0 g0 rfl rfl⟩, ⟨hf 1 f1 g1 rfl rfl⟩⟩
theorem IsT_str {n t : Nat} {fs : List FV} (ht : P.underlying t = some .string) (h : IsT P (n + 1) t fs) : ∃ s : ByteArray, fs = [.str s] ∧ s.size ≤ reachBytes := by
  have h := h.h
  simp only [FVT, ht] at h
  exact h
theorem IsT_fields {n t : Nat} {fl : Array Field} {fs : List FV} (ht : P.underlying t = some (.struct fl)) (h : IsT P (n + 1) t fs) : ∃ gss : List (List FV), gss.length = fl.toList.length ∧ fs = gss.flatten ∧ ∀ (i : Nat) (f : Field) (g : List FV), fl.toList[i]? = some f → gss[i]? = some g → IsT P n f.type g := by
  have h := h.h
  simp only [FVT, ht] at h
  obtain ⟨gss, hl, e, hf⟩ := h
  exact ⟨gss, hl, e, fun i f g h1 h2 => ⟨hf i f g h1 h2⟩⟩
theorem IsT_three {n t : Nat} {f0 f1 f2 : Field} {fs : List FV} (ht : P.underlying t = some (.struct #[f0, f1, f2])) (h : IsT P (n + 1) t fs) : ∃ g0 g1 g2, fs = g0 ++ (g1 ++ g2) ∧ IsT P n f0.type g0 ∧ IsT P n f1.type g1 ∧ IsT P n f2.type g2 := by
  obtain ⟨gss, hl, rfl, hf⟩ := IsT_fields ht h
  match gss, hl with
  | [g0, g1, g2], _ => exact ⟨g0, g1, g2, by simp, hf 0 f0 g0 rfl rfl, hf 1 f1 g1 rfl rfl, hf 2 f2 g2 rfl rfl⟩
theorem IsT_two {n t e : Nat} {fs : List FV} (ht : P.underlying t = some (.array 2 e)) (he : P.underlying e = some (.int .i64)) (h : IsT P (n + 2) t fs) : ∃ a b, fs = [.int .i64 a, .int .i64 b] := by
  have h := h.h
  simp only [FVT, ht] at h
  obtain ⟨gss, hl, rfl, hf⟩ := h
  match gss, hl with
  | [g0, g1], _ =>
    obtain ⟨a, ha⟩ := IsT_int he ⟨hf g0 (by simp)⟩
    obtain ⟨b, hb⟩ := IsT_int he ⟨hf g1 (by simp)⟩
    exact ⟨a, b, by rw [ha, hb]; rfl⟩
theorem ArgsT_one {n t : Nat} {xs : List FV} (h : ArgsT P n [t] xs) : ∃ fs, xs = [argFV P t fs] ∧ IsT P n t fs := by
  obtain ⟨fs, ys, h0, h1, h2⟩ := h
  have h2 : ys = [] := h2
  exact ⟨fs, by rw [h0, h2], h1⟩
theorem argFV_struct {t : Nat} (h : isStruct P t = true) (fs : List FV) : argFV P t fs = .agg fs := if_pos h
theorem argFV_one {t : Nat} (h : isStruct P t = false) (x : FV) : argFV P t [x] = x := by simp [argFV, h]
end
end Go.Proofs.Ytidiigajhbegeaa.E
