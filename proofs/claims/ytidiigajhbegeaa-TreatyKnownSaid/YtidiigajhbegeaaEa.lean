/-
  The engine, part a: values without addresses, what it means that a value of the model stands for one, and what keeps it so. Conditions: none; it is stated of any program.
-/
import Derived.WalkKit
import Derived.LoopN
import Derived.Orders
namespace Go.Proofs.Ytidiigajhbegeaa.E
open Go Go.RowKit
set_option linter.unusedVariables false

/-- A value that nobody writes to any more: slices and pointers hold what they point at. -/
inductive FV where
  | int (k : IntKind) (n : Int)
  | bool (b : Bool)
  | str (s : ByteArray)
  | sl (clip : Bool) (sz : Nat) (xs : List FV)
  | pt (cells : List FV) (off : Nat)
  | agg (cells : List FV)
  | fn (f : Fn) (first captured : List FV)
  | rb (f : FuncId) (pre post : List FV)
  | nilfn
  | nilpt
  | nilif
  | nilmp
  | top

def cellsOf : FV → List FV
  | .agg cs => cs
  | x => [x]

def nagg : FV → Bool
  | .agg _ => false
  | _ => true
/-- So many cells, each of one value. -/
def cellsOK (sz : Nat) (x : FV) : Bool := (cellsOf x).length == sz && (cellsOf x).all nagg
theorem ok_len {sz : Nat} {x : FV} (h : cellsOK sz x = true) : (cellsOf x).length = sz := by
  simp only [cellsOK, Bool.and_eq_true, beq_iff_eq] at h; exact h.1
theorem ok_nagg {sz : Nat} {x : FV} (h : cellsOK sz x = true) {j : Nat} {y : FV} (hj : (cellsOf x)[j]? = some y) : nagg y = true := by
  simp only [cellsOK, Bool.and_eq_true, List.all_eq_true] at h; exact h.2 y (List.mem_of_getElem? hj)
/-- No memory behind it. -/
def flat1 : FV → Bool
  | .int _ _ => true
  | .bool _ => true
  | .str _ => true
  | .nilfn => true
  | .nilpt => true
  | .nilif => true
  | .nilmp => true
  | .top => true
  | .fn _ [] [] => true
  | _ => false
def flat : FV → Bool
  | .agg cs => cs.all flat1
  | x => flat1 x

def lk {α : Type} (k : Nat) : List (Nat × α) → Option α
  | [] => none
  | (j, v) :: r => if k = j then some v else lk k r
def put {α : Type} (k : Nat) (v : α) : List (Nat × α) → List (Nat × α)
  | [] => [(k, v)]
  | (j, u) :: r => if k = j then (k, v) :: r else if k < j then (k, v) :: (j, u) :: r else (j, u) :: put k v r
def rm {α : Type} (k : Nat) : List (Nat × α) → List (Nat × α)
  | [] => []
  | (j, u) :: r => if k = j then rm k r else (j, u) :: rm k r

section
variable {α : Type}
theorem lk_put_same (k : Nat) (v : α) : ∀ l, lk k (put k v l) = some v
  | [] => by simp [put, lk]
  | (j, u) :: r => by
    simp only [put]
    split
    · simp [lk]
    · split
      · simp [lk]
      · simp [lk, *, lk_put_same k v r]
theorem lk_put_ne {k j : Nat} (v : α) (h : j ≠ k) : ∀ l, lk j (put k v l) = lk j l
  | [] => by simp [put, lk, h]
  | (i, u) :: r => by
    simp only [put]
    split
    · rename_i e; subst e; simp [lk, h]
    · split
      · simp [lk, h]
      · simp [lk, lk_put_ne v h r]
theorem lk_put (k j : Nat) (v : α) (l : List (Nat × α)) : lk j (put k v l) = if j = k then some v else lk j l := by
  by_cases h : j = k
  · subst h; simp [lk_put_same]
  · simp [h, lk_put_ne v h]
theorem lk_rm_same (k : Nat) : ∀ l : List (Nat × α), lk k (rm k l) = none
  | [] => rfl
  | (j, u) :: r => by
    simp only [rm]
    split
    · exact lk_rm_same k r
    · simp [lk, *, lk_rm_same k r]
theorem lk_rm_ne {k j : Nat} (h : j ≠ k) : ∀ l : List (Nat × α), lk j (rm k l) = lk j l
  | [] => rfl
  | (i, u) :: r => by
    simp only [rm]
    split
    · rename_i e; subst e; simp [lk, h, lk_rm_ne h r]
    · simp [lk, lk_rm_ne h r]
theorem lk_rm (k j : Nat) (l : List (Nat × α)) : lk j (rm k l) = if j = k then none else lk j l := by
  by_cases h : j = k
  · subst h; simp [lk_rm_same]
  · simp [h, lk_rm_ne h]
theorem lk_filter (p : Nat → Bool) (k : Nat) : ∀ l : List (Nat × α), lk k (l.filter fun e => p e.1) = if p k then lk k l else none
  | [] => by simp [lk]
  | (j, u) :: r => by
    have ih := lk_filter p k r
    by_cases hj : p j
    · simp only [List.filter_cons, hj, if_true, lk]
      by_cases e : k = j
      · subst e; simp [hj]
      · simp [e, ih]
    · simp only [List.filter_cons, hj, lk]
      by_cases e : k = j
      · subst e; simp [hj, ih]
      · simp [e, ih]
theorem lk_map (f : α → α) (k : Nat) : ∀ l : List (Nat × α), lk k (l.map fun e => (e.1, f e.2)) = (lk k l).map f
  | [] => rfl
  | (j, u) :: r => by
    simp only [List.map_cons, lk]
    split
    · rfl
    · exact lk_map f k r
end

/-! ### A value of the model stands for an FV -/
inductive RepF (Fz : Nat → Prop) (w : World) : FV → Value → Prop where
  | int (k : IntKind) (n : Int) : RepF Fz w (.int k n) (.int k n)
  | bool (b : Bool) : RepF Fz w (.bool b) (.bool b)
  | str (s : ByteArray) : RepF Fz w (.str s) (.string s)
  | nilfn : RepF Fz w .nilfn .nilFunc
  | nilpt : RepF Fz w .nilpt (.pointer none)
  | nilif : RepF Fz w .nilif .nilIface
  | nilmp : RepF Fz w .nilmp (.map none)
  | top (v : Value) (h : v.oneCell' = true) : RepF Fz w .top v
  | sl0 (clip : Bool) (sz : Nat) (a : Option Addr) (cap : Nat) (hc : clip = true → cap = 0) : RepF Fz w (.sl clip sz []) (.slice a 0 cap)
  | sl (clip : Bool) (sz : Nat) (xs : List FV) (b o len cap : Nat) (us : Nat → Nat → Value) (hlen : xs.length = len) (hcap : len ≤ cap) (hclip : clip = true → cap = len)
      (hb : Fz b) (hsz : ∀ (i : Nat) (x : FV), xs[i]? = some x → cellsOK sz x = true)
      (hc : ∀ (i : Nat) (x : FV) (j : Nat) (y : FV), xs[i]? = some x → (cellsOf x)[j]? = some y → w.cell? ⟨b, o + (i * sz + j), none⟩ = some (us i j))
      (hr : ∀ (i : Nat) (x : FV) (j : Nat) (y : FV), xs[i]? = some x → (cellsOf x)[j]? = some y → RepF Fz w y (us i j)) : RepF Fz w (.sl clip sz xs) (.slice (some ⟨b, o, none⟩) len cap)
  | pt (cells : List FV) (off b o : Nat) (us : Nat → Value) (hb : Fz b) (hc : ∀ (j : Nat) (y : FV), cells[j]? = some y → w.cell? ⟨b, o + j, none⟩ = some (us j))
      (hr : ∀ (j : Nat) (y : FV), cells[j]? = some y → RepF Fz w y (us j)) : RepF Fz w (.pt cells off) (.pointer (some ⟨b, o + off, none⟩))
  | agg (cells : List FV) (vs : Array Value) (hs : vs.size = cells.length) (hr : ∀ (j : Nat) (y : FV), cells[j]? = some y → RepF Fz w y (vs.getD j undef)) : RepF Fz w (.agg cells) (.agg vs)
  | fn (f : Fn) (first captured : List FV) (vf vc : Array Value) (hs : vf.size = first.length) (hs' : vc.size = captured.length)
      (hr : ∀ (j : Nat) (y : FV), first[j]? = some y → RepF Fz w y (vf.getD j undef)) (hr' : ∀ (j : Nat) (y : FV), captured[j]? = some y → RepF Fz w y (vc.getD j undef)) : RepF Fz w (.fn f first captured) (.func f vf vc)
  | rb (f : FuncId) (pre post : List FV) (b o : Nat) (vp vq : Array Value) (hb : Fz b) (hs : vp.size = pre.length) (hs' : vq.size = post.length)
      (hc : w.cell? ⟨b, o, none⟩ = some (.func (.func f) #[] (vp ++ #[.pointer (some ⟨b, o, none⟩)] ++ vq)))
      (hr : ∀ (j : Nat) (y : FV), pre[j]? = some y → RepF Fz w y (vp.getD j undef)) (hr' : ∀ (j : Nat) (y : FV), post[j]? = some y → RepF Fz w y (vq.getD j undef)) : RepF Fz w (.rb f pre post) (.pointer (some ⟨b, o, none⟩))

theorem RepF.mono {Fz Fz' : Nat → Prop} {w w' : World} (hf : ∀ b, Fz b → Fz' b) (hw : ∀ b, Fz b → w'.heap[b]? = w.heap[b]?) {x : FV} {v : Value} (h : RepF Fz w x v) :
    RepF Fz' w' x v := by
  have hcell : ∀ b o, Fz b → w'.cell? ⟨b, o, none⟩ = w.cell? ⟨b, o, none⟩ := fun b o hb => by simp [World.cell?, hw b hb]
  induction h with
  | int k n => exact .int k n
  | bool b => exact .bool b
  | str s => exact .str s
  | nilfn => exact .nilfn
  | nilpt => exact .nilpt
  | nilif => exact .nilif
  | nilmp => exact .nilmp
  | top v h => exact .top v h
  | sl0 clip sz a cap hc => exact .sl0 clip sz a cap hc
  | sl clip sz xs b o len cap us hlen hcap hclip hb hsz hc hr ih => exact .sl clip sz xs b o len cap us hlen hcap hclip (hf b hb) hsz (fun i x j y h1 h2 => (hcell b _ hb).trans (hc i x j y h1 h2)) ih
  | pt cells off b o us hb hc hr ih => exact .pt cells off b o us (hf b hb) (fun j y h1 => (hcell b _ hb).trans (hc j y h1)) ih
  | agg cells vs hs hr ih => exact .agg cells vs hs ih
  | fn f first captured vf vc hs hs' hr hr' ih ih' => exact .fn f first captured vf vc hs hs' ih ih'
  | rb f pre post b o vp vq hb hs hs' hc hr hr' ih ih' => exact .rb f pre post b o vp vq (hf b hb) hs hs' ((hcell b _ hb).trans hc) ih ih'

theorem RepF.of_flat1 {Fz Fz' : Nat → Prop} {w w' : World} {x : FV} {v : Value} (h : RepF Fz w x v) (hx : flat1 x = true) : RepF Fz' w' x v := by
  cases h with
  | int k n => exact .int k n
  | bool b => exact .bool b
  | str s => exact .str s
  | nilfn => exact .nilfn
  | nilpt => exact .nilpt
  | nilif => exact .nilif
  | nilmp => exact .nilmp
  | top v h => exact .top v h
  | sl0 => simp [flat1] at hx
  | sl => simp [flat1] at hx
  | pt => simp [flat1] at hx
  | agg => simp [flat1] at hx
  | rb => simp [flat1] at hx
  | fn f first captured vf vc hs hs' hr hr' =>
    cases first with
    | cons => simp [flat1] at hx
    | nil =>
      cases captured with
      | cons => simp [flat1] at hx
      | nil => exact .fn f [] [] vf vc hs hs' (by simp) (by simp)
theorem RepF.of_flat {Fz Fz' : Nat → Prop} {w w' : World} {x : FV} {v : Value} (h : RepF Fz w x v) (hx : flat x = true) : RepF Fz' w' x v := by
  cases h with
  | agg cells vs hs hr =>
    simp only [flat, List.all_eq_true] at hx
    exact .agg cells vs hs fun j y hj => (hr j y hj).of_flat1 (hx y (List.mem_of_getElem? hj))
  | int k n => exact .int k n
  | bool b => exact .bool b
  | str s => exact .str s
  | nilfn => exact .nilfn
  | nilpt => exact .nilpt
  | nilif => exact .nilif
  | nilmp => exact .nilmp
  | top v h => exact .top v h
  | sl0 clip sz a cap hc => exact .sl0 clip sz a cap hc
  | sl => simp [flat, flat1] at hx
  | pt => simp [flat, flat1] at hx
  | rb => simp [flat, flat1] at hx
  | fn f first captured vf vc hs hs' hr hr' => exact (RepF.fn (Fz := Fz) (w := w) f first captured vf vc hs hs' hr hr').of_flat1 (by simpa [flat] using hx)

theorem cells_of_one {v : Value} (h : v.oneCell' = true) : v.cells = #[v] := by
  cases v <;> first | rfl | simp [Value.oneCell'] at h
theorem RepF.one {Fz : Nat → Prop} {w : World} {x : FV} {v : Value} (h : RepF Fz w x v) (hx : nagg x = true) : v.oneCell' = true := by
  cases h <;> first | rfl | assumption | simp [nagg] at hx
/-! ### Values of a frame: views of the frame's own blocks besides -/
/-- The name under which the number of the loop is kept that yield serves; slots from GH on are those of the frame around a round. -/
def YN : Nat := 99999
@[irreducible] def GH : Nat := 100000000
def hi (t : Nat) : Bool := Nat.ble 100000000 t
@[simp] theorem hi_eq (t : Nat) : hi t = decide (100000000 ≤ t) := by
  unfold hi; rw [Bool.eq_iff_iff]; simp
theorem hi_lt {t : Nat} (h : ¬ hi t = true) : t < GH := by
  unfold GH; simpa using h
inductive V where
  | yv
  | top
  | fv (ro : Bool) (x : FV)
  | own (s off len : Nat)
  | ptr (s off : Nat)
  | pel (s i j : Nat)
  | agg (cells : List V)
  | fn (f : Fn) (first captured : List V)
  | map (s : Nat)
  | tup (cells : List V)

inductive Blk where
  | arr (sz : Nat) (xs : List FV)
  | box (cells : List V)
  | lst (sz n : Nat) (cells : List V)
  | mp (es : List (FV × V))
  | mit (mv : V) (since last : Nat) (seen : List Nat)

def shp : Blk → Nat × Nat
  | .arr sz xs => (sz, xs.length)
  | .box cells => (0, cells.length)
  | .lst sz n _ => (sz, n)
  | .mp _ => (0, 0)
  | .mit _ _ _ _ => (0, 0)
/-- The cells in which a block may speak of other blocks. -/
def bcells : Blk → List V
  | .arr _ _ => []
  | .box cells => cells
  | .lst _ _ cells => cells
  | .mp es => es.map (·.2)
  | .mit mv _ _ _ => [mv]

structure St where
  env : List (Nat × V)
  blk : List (Nat × Blk)
  tr : List (List FV) := []

def roF (Fz Fy : Nat → Prop) (ro : Bool) : Nat → Prop := if ro then Fy else Fz

def Room (w : World) (b o n : Nat) : Prop := ∃ (c : Array Value) (e : TypeId), w.heap[b]? = some (.cells c e (0, 0)) ∧ o + n ≤ c.size

inductive RepV (μ sh : Nat → Option (Nat × Nat)) (Fz Fy : Nat → Prop) (w : World) : V → Value → Prop where
  | yv (l : Nat) (hm : μ YN = some (l, 0)) : RepV μ sh Fz Fy w .yv (.func (.yield l) #[] #[])
  | top (v : Value) : RepV μ sh Fz Fy w .top v
  | fv (ro : Bool) (x : FV) (v : Value) (h : RepF (roF Fz Fy ro) w x v) : RepV μ sh Fz Fy w (.fv ro x) v
  | ownx (s off len : Nat) (v : Value) (h : sh s = none) : RepV μ sh Fz Fy w (.own s off len) v
  | own (s off len : Nat) (a : Option Addr) (cap sz n : Nat) (hs : sh s = some (sz, n)) (hn : off + len ≤ n) (hc : len ≤ cap)
      (hm : cap = 0 ∨ ∃ b base, μ s = some (b, base) ∧ a = some ⟨b, base + off * sz, none⟩ ∧ Room w b base ((off + cap) * sz)) : RepV μ sh Fz Fy w (.own s off len) (.slice a len cap)
  | ptrx (s off : Nat) (v : Value) (h : sh s = none) : RepV μ sh Fz Fy w (.ptr s off) v
  | ptr (s off b base : Nat) (hm : μ s = some (b, base)) : RepV μ sh Fz Fy w (.ptr s off) (.pointer (some ⟨b, base + off, none⟩))
  | pelx (s i j : Nat) (v : Value) (h : sh s = none) : RepV μ sh Fz Fy w (.pel s i j) v
  | pel (s i j sz n b base : Nat) (hs : sh s = some (sz, n)) (hi : i < n) (hm : μ s = some (b, base)) : RepV μ sh Fz Fy w (.pel s i j) (.pointer (some ⟨b, base + (i * sz + j), none⟩))
  | agg (cells : List V) (vs : Array Value) (hs : vs.size = cells.length) (hr : ∀ (j : Nat) (y : V), cells[j]? = some y → RepV μ sh Fz Fy w y (vs.getD j undef)) : RepV μ sh Fz Fy w (.agg cells) (.agg vs)
  | fn (f : Fn) (first captured : List V) (vf vc : Array Value) (hs : vf.size = first.length) (hs' : vc.size = captured.length)
      (hr : ∀ (j : Nat) (y : V), first[j]? = some y → RepV μ sh Fz Fy w y (vf.getD j undef)) (hr' : ∀ (j : Nat) (y : V), captured[j]? = some y → RepV μ sh Fz Fy w y (vc.getD j undef)) : RepV μ sh Fz Fy w (.fn f first captured) (.func f vf vc)
  | mapx (s : Nat) (v : Value) (h : sh s = none) : RepV μ sh Fz Fy w (.map s) v
  | map (s b base : Nat) (hm : μ s = some (b, base)) : RepV μ sh Fz Fy w (.map s) (.map (some b))
  | tup (cells : List V) (vs : Array Value) (hs : vs.size = cells.length) (hr : ∀ (j : Nat) (y : V), cells[j]? = some y → RepV μ sh Fz Fy w y (vs.getD j undef)) : RepV μ sh Fz Fy w (.tup cells) (.tuple vs)

/-- Does a value speak of block s (at a depth beyond the fuel: said to)? -/
def ment : Nat → Nat → V → Bool
  | 0, _, _ => true
  | n + 1, s, v => match v with
    | .yv => false
    | .top => false
    | .fv _ _ => false
    | .own t _ _ => t == s
    | .ptr t _ => t == s
    | .pel t _ _ => t == s
    | .map t => t == s
    | .agg cells => cells.any (ment n s)
    | .tup cells => cells.any (ment n s)
    | .fn _ first captured => first.any (ment n s) || captured.any (ment n s)

/-- What was there keeps its size. -/
def Keeps (w w' : World) : Prop := ∀ (b : Nat) (c : Array Value) (e : TypeId) (fr : Nat × Nat), w.heap[b]? = some (.cells c e fr) → ∃ c' : Array Value, w'.heap[b]? = some (.cells c' e fr) ∧ c'.size = c.size
theorem Keeps.refl (w : World) : Keeps w w := fun _ c _ _ h => ⟨c, h, rfl⟩
theorem Keeps.trans {a b c : World} (h : Keeps a b) (h' : Keeps b c) : Keeps a c := fun r x e fr hx => by
  obtain ⟨y, hy, hs⟩ := h r x e fr hx
  obtain ⟨z, hz, hs'⟩ := h' r y e fr hy
  exact ⟨z, hz, hs'.trans hs⟩
theorem Keeps.of_below {w w' : World} (h : Below w.heap.size w w') : Keeps w w' := fun r x e fr hx => by
  have hr : r < w.heap.size := by
    rcases Nat.lt_or_ge r w.heap.size with h | h
    · exact h
    · simp [Array.getElem?_eq_none h] at hx
  exact ⟨x, (h.block r hr).trans hx, rfl⟩
theorem Room.keeps {w w' : World} {b o n : Nat} (h : Room w b o n) (hk : Keeps w w') : Room w' b o n := by
  obtain ⟨c, e, hc, hn⟩ := h
  obtain ⟨c', hc', hs⟩ := hk b c e _ hc
  exact ⟨c', e, hc', by omega⟩

/-- What a value stands for lasts: where the blocks that it speaks of lie as they lay, or are let go of. -/
theorem RepV.mono {μ sh μ' sh' : Nat → Option (Nat × Nat)} {Fz Fy Fz' Fy' : Nat → Prop} {w w' : World} (hz : ∀ b, Fz b → Fz' b) (hy : ∀ b, Fy b → Fy' b)
    (hwz : ∀ b, Fz b → w'.heap[b]? = w.heap[b]?) (hwy : ∀ b, Fy b → w'.heap[b]? = w.heap[b]?) (hk : Keeps w w') (D : Nat → Prop)
    (hs : ∀ s, ¬ D s → sh' s = none ∨ (sh' s = sh s ∧ μ' s = μ s)) (hY : ∀ l, μ YN = some (l, 0) → μ' YN = some (l, 0)) {x : V} {v : Value} (h : RepV μ sh Fz Fy w x v) :
    (∀ s, D s → ∃ n, ment n s x = false) → RepV μ' sh' Fz' Fy' w' x v := by
  induction h with
  | yv l hm => exact fun _ => .yv l (hY l hm)
  | top v => exact fun _ => .top v
  | fv ro x v h =>
    intro _
    refine .fv ro x v (h.mono ?_ ?_)
    · cases ro <;> simpa [roF]
    · cases ro <;> simpa [roF]
  | ownx s off len v h =>
    intro hd
    have hD : ¬ D s := fun hD => by obtain ⟨n, hn⟩ := hd s hD; cases n <;> simp [ment] at hn
    rcases hs s hD with h' | ⟨h', _⟩
    · exact .ownx s off len v h'
    · exact .ownx s off len v (h'.trans h)
  | own s off len a cap sz n hsh hn hc hm =>
    intro hd
    have hD : ¬ D s := fun hD => by obtain ⟨n, hn⟩ := hd s hD; cases n <;> simp [ment] at hn
    rcases hs s hD with h' | ⟨h', hμ⟩
    · exact .ownx s off len _ h'
    · refine .own s off len a cap sz n (h'.trans hsh) hn hc (hm.imp id ?_)
      rintro ⟨b, base, hb, ha, hr⟩
      exact ⟨b, base, hμ.trans hb, ha, hr.keeps hk⟩
  | ptrx s off v h =>
    intro hd
    have hD : ¬ D s := fun hD => by obtain ⟨n, hn⟩ := hd s hD; cases n <;> simp [ment] at hn
    rcases hs s hD with h' | ⟨h', _⟩
    · exact .ptrx s off v h'
    · exact .ptrx s off v (h'.trans h)
  | ptr s off b base hm =>
    intro hd
    have hD : ¬ D s := fun hD => by obtain ⟨n, hn⟩ := hd s hD; cases n <;> simp [ment] at hn
    rcases hs s hD with h' | ⟨h', hμ⟩
    · exact .ptrx s off _ h'
    · exact .ptr s off b base (hμ.trans hm)
  | pelx s i j v h =>
    intro hd
    have hD : ¬ D s := fun hD => by obtain ⟨n, hn⟩ := hd s hD; cases n <;> simp [ment] at hn
    rcases hs s hD with h' | ⟨h', _⟩
    · exact .pelx s i j v h'
    · exact .pelx s i j v (h'.trans h)
  | pel s i j sz n b base hsh hi hm =>
    intro hd
    have hD : ¬ D s := fun hD => by obtain ⟨n, hn⟩ := hd s hD; cases n <;> simp [ment] at hn
    rcases hs s hD with h' | ⟨h', hμ⟩
    · exact .pelx s i j _ h'
    · exact .pel s i j sz n b base (h'.trans hsh) hi (hμ.trans hm)
  | mapx s v h =>
    intro hd
    have hD : ¬ D s := fun hD => by obtain ⟨n, hn⟩ := hd s hD; cases n <;> simp [ment] at hn
    rcases hs s hD with h' | ⟨h', _⟩
    · exact .mapx s v h'
    · exact .mapx s v (h'.trans h)
  | map s b base hm =>
    intro hd
    have hD : ¬ D s := fun hD => by obtain ⟨n, hn⟩ := hd s hD; cases n <;> simp [ment] at hn
    rcases hs s hD with h' | ⟨h', hμ⟩
    · exact .mapx s _ h'
    · exact .map s b base (hμ.trans hm)
  | agg cells vs hsz hr ih =>
    intro hd
    refine .agg cells vs hsz fun j y hj => ih j y hj fun s hD => ?_
    obtain ⟨n, hn⟩ := hd s hD
    cases n with
    | zero => simp [ment] at hn
    | succ n => simp only [ment, List.any_eq_false] at hn; exact ⟨n, by simpa using hn y (List.mem_of_getElem? hj)⟩
  | tup cells vs hsz hr ih =>
    intro hd
    refine .tup cells vs hsz fun j y hj => ih j y hj fun s hD => ?_
    obtain ⟨n, hn⟩ := hd s hD
    cases n with
    | zero => simp [ment] at hn
    | succ n => simp only [ment, List.any_eq_false] at hn; exact ⟨n, by simpa using hn y (List.mem_of_getElem? hj)⟩
  | fn f first captured vf vc hsz hsz' hr hr' ih ih' =>
    intro hd
    refine .fn f first captured vf vc hsz hsz' (fun j y hj => ih j y hj fun s hD => ?_) (fun j y hj => ih' j y hj fun s hD => ?_)
    · obtain ⟨n, hn⟩ := hd s hD
      cases n with
      | zero => simp [ment] at hn
      | succ n => simp only [ment, Bool.or_eq_false_iff, List.any_eq_false] at hn; exact ⟨n, by simpa using hn.1 y (List.mem_of_getElem? hj)⟩
    · obtain ⟨n, hn⟩ := hd s hD
      cases n with
      | zero => simp [ment] at hn
      | succ n => simp only [ment, Bool.or_eq_false_iff, List.any_eq_false] at hn; exact ⟨n, by simpa using hn.2 y (List.mem_of_getElem? hj)⟩
end Go.Proofs.Ytidiigajhbegeaa.E
