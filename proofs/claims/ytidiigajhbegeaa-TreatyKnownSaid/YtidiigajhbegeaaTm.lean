/-
  The chapter of the treaty: two of the library's functions: slices.Sort and slices.Clone, over int. Conditions: none.
-/
import Derived.Test.YtidiigajhbegeaaTl
import Derived.Shelf.SlGeneric
import Derived.Shelf.SortM.Plain
import Derived.Shelf.SortM.SortNone
import Derived.Ground.SlgmProg
import Derived.Shelf.SlicesE.Clone
import Derived.Ground.SlgnProg
namespace Go.Proofs.Ytidiigajhbegeaa
open Go Go.RowKit Go.Sort Go.Shelf
def Try.mSort_ren : Go.Shelf.Ren := ⟨fun | 5 => 42 | 8 => 49 | 7 => 48 | 19 => 60 | 20 => 61 | 10 => 51 | 11 => 52 | 12 => 53 | 13 => 54 | 14 => 55 | 15 => 56 | 16 => 57 | 17 => 58 | 18 => 59 | 30 => 62 | 31 => 63 | 32 => 64 | 33 => 65 | 34 => 66 | 35 => 67 | 40 => 68 | n => n, fun | 23 => 22 | 25 => 3 | 3 => 3 | 32 => 93 | 22 => 22 | 0 => 0 | 44 => 104 | 46 => 106 | 4 => 4 | 36 => 96 | 35 => 95 | 41 => 101 | 5 => 5 | 9 => 9 | 53 => 107 | 57 => 111 | 63 => 113 | 64 => 114 | n => n, fun | n => n⟩
theorem Try.mSort : Go.Proofs.SlLaysM.n5 Try.prog Try.mSort_ren := {
  mixed := by kernel_rfl
  f5 := ⟨Try.f42.name, by decide, Try.func42.trans (congrArg some (by kernel_rfl))⟩
  f7 := ⟨Try.f48.name, by decide, Try.func48.trans (congrArg some (by kernel_rfl))⟩
  f8 := Try.func49.trans (congrArg some (by kernel_rfl))
  f10 := ⟨Try.f51.name, by decide, Try.func51.trans (congrArg some (by kernel_rfl))⟩
  f11 := ⟨Try.f52.name, by decide, Try.func52.trans (congrArg some (by kernel_rfl))⟩
  f12 := ⟨Try.f53.name, by decide, Try.func53.trans (congrArg some (by kernel_rfl))⟩
  f13 := ⟨Try.f54.name, by decide, Try.func54.trans (congrArg some (by kernel_rfl))⟩
  f14 := ⟨Try.f55.name, by decide, Try.func55.trans (congrArg some (by kernel_rfl))⟩
  f15 := ⟨Try.f56.name, by decide, Try.func56.trans (congrArg some (by kernel_rfl))⟩
  f16 := ⟨Try.f57.name, by decide, Try.func57.trans (congrArg some (by kernel_rfl))⟩
  f17 := ⟨Try.f58.name, by decide, Try.func58.trans (congrArg some (by kernel_rfl))⟩
  f18 := ⟨Try.f59.name, by decide, Try.func59.trans (congrArg some (by kernel_rfl))⟩
  f19 := Try.func60.trans (congrArg some (by kernel_rfl))
  f20 := Try.func61.trans (congrArg some (by kernel_rfl))
  f30 := ⟨Try.f62.name, by decide, Try.func62.trans (congrArg some (by kernel_rfl))⟩
  f31 := Try.func63.trans (congrArg some (by kernel_rfl))
  f32 := Try.func64.trans (congrArg some (by kernel_rfl))
  f33 := ⟨Try.f65.name, by decide, Try.func65.trans (congrArg some (by kernel_rfl))⟩
  f34 := ⟨Try.f66.name, by decide, Try.func66.trans (congrArg some (by kernel_rfl))⟩
  f35 := ⟨Try.f67.name, by decide, Try.func67.trans (congrArg some (by kernel_rfl))⟩
  f40 := ⟨Try.f68.name, by decide, Try.func68.trans (congrArg some (by kernel_rfl))⟩
  t0 := Try.underlying0
  a0 := Try.isAgg0
  z0 := Try.sizeOf0
  v0 := Try.zeroValue0
  t3 := Try.underlying3
  a3 := Try.isAgg3
  z3 := Try.sizeOf3
  v3 := Try.zeroValue3
  t4 := Try.underlying4
  a4 := Try.isAgg4
  z4 := Try.sizeOf4
  v4 := Try.zeroValue4
  t5 := Try.underlying5
  a5 := Try.isAgg5
  z5 := Try.sizeOf5
  v5 := Try.zeroValue5
  t9 := Try.underlying9
  a9 := Try.isAgg9
  z9 := Try.sizeOf9
  v9 := Try.zeroValue9
  t22 := Try.underlying22
  a22 := Try.isAgg22
  z22 := Try.sizeOf22
  v22 := Try.zeroValue22
  t23 := Try.underlying22
  a23 := Try.isAgg22
  z23 := Try.sizeOf22
  v23 := Try.zeroValue22
  t25 := Try.underlying3
  a25 := Try.isAgg3
  z25 := Try.sizeOf3
  v25 := Try.zeroValue3
  t32 := Try.underlying93
  a32 := Try.isAgg93
  z32 := Try.sizeOf93
  v32 := Try.zeroValue93
  t35 := Try.underlying95
  a35 := Try.isAgg95
  z35 := Try.sizeOf95
  v35 := Try.zeroValue95
  t36 := Try.underlying96
  a36 := Try.isAgg96
  z36 := Try.sizeOf96
  v36 := Try.zeroValue96
  t41 := Try.underlying101
  a41 := Try.isAgg101
  z41 := Try.sizeOf101
  v41 := Try.zeroValue101
  t44 := Try.underlying104
  a44 := Try.isAgg104
  z44 := Try.sizeOf104
  v44 := Try.zeroValue104
  t46 := Try.underlying106
  a46 := Try.isAgg106
  z46 := Try.sizeOf106
  v46 := Try.zeroValue106
  t53 := Try.underlying107
  a53 := Try.isAgg107
  z53 := Try.sizeOf107
  v53 := Try.zeroValue107
  t57 := Try.underlying111
  a57 := Try.isAgg111
  z57 := Try.sizeOf111
  v57 := Try.zeroValue111
  t63 := Try.underlying113
  a63 := Try.isAgg113
  z63 := Try.sizeOf113
  v63 := Try.zeroValue113
  t64 := Try.underlying114
  a64 := Try.isAgg114
  z64 := Try.sizeOf114
  v64 := Try.zeroValue114 }
def Try.mClone_ren : Go.Shelf.Ren := ⟨fun | 41 => 41 | n => n, fun | 22 => 22 | 23 => 3 | 4 => 4 | n => n, fun | n => n⟩
theorem Try.mClone : Go.Proofs.SlLaysE0.n41 Try.prog Try.mClone_ren := {
  mixed := by kernel_rfl
  f41 := ⟨Try.f41.name, by decide, Try.func41.trans (congrArg some (by kernel_rfl))⟩
  t4 := Try.underlying4
  a4 := Try.isAgg4
  z4 := Try.sizeOf4
  v4 := Try.zeroValue4
  t22 := Try.underlying22
  a22 := Try.isAgg22
  z22 := Try.sizeOf22
  v22 := Try.zeroValue22 }
namespace E
set_option linter.unusedVariables false
def sorted (l : List Int) : List Int := l.mergeSort fun x y => decide (x ≤ y)
theorem sorted_length (l : List Int) : (sorted l).length = l.length := by simp [sorted]
theorem putRow_cells {w : World} {blk off : Nat} {c : Array Value} {e : TypeId} {fr : Nat × Nat} (h : w.heap[blk]? = some (.cells c e fr)) (d : Array Int) : (putRow (Value.int .i64) w blk off d).heap[blk]? = some (.cells (putCells (Value.int .i64) off d c) e fr) := by
  simp [putRow, mapBlock, Array.getElem?_modify, h, onCells]
theorem putRow_other {w : World} {blk off k : Nat} (hk : k ≠ blk) (d : Array Int) : (putRow (Value.int .i64) w blk off d).heap[k]? = w.heap[k]? := by
  simp [putRow, mapBlock, Array.getElem?_modify, Ne.symm hk]
theorem putCells_size (off : Nat) (d : Array Int) (c : Array Value) : (putCells (Value.int .i64) off d c).size = c.size := by simp [putCells]
theorem putCells_get {off : Nat} {d : Array Int} {c : Array Value} {j : Nat} (hj : j < d.size) (hc : off + j < c.size) : (putCells (Value.int .i64) off d c).getD (off + j) undef = .int .i64 d[j]! := by
  simp only [putCells, Array.getD_eq_getD_getElem?, Array.getElem?_mapIdx, Array.getElem?_eq_getElem hc, Option.map_some, Option.getD_some]
  rw [if_pos ⟨by omega, by omega⟩]
  congr 2
  omega
theorem sort_row (l : List Int) (hl : l.length < 4611686018427387904) : ValidS Try.prog 42 1 (ints l) (ints (sorted l)) := by
  refine { len := by simp [sorted_length], ok := fun i x hx => ?_, nil := fun hn w a cap => ?_, run := fun hne w Fz Fy b0 base c e cap hzy hyl hb0 hh hlc hcap hr => ?_ }
  · simp only [ints_get, Option.map_eq_some_iff] at hx
    obtain ⟨y, _, rfl⟩ := hx; rfl
  · refine (AnyM.slices_Sort_int_none Try.mSort a cap w).mono ?_
    rintro e w' ⟨rfl, rfl⟩
    exact ⟨rfl, Below.refl _ _⟩
  · have hlt : b0 < w.heap.size := (Array.getElem?_eq_some_iff.1 hh).1
    have hlen : (ints l).length = l.length := by simp
    have hH : Holds (Value.int .i64) w b0 base l.toArray := fun j hj => by
      simp only [List.size_toArray] at hj
      have h1 := hr j (.int .i64 l[j]) 0 (.int .i64 l[j]) (by simp [hj]) rfl
      have hcs : base + j < c.size := by rw [hlen] at hlc; omega
      simp only [Nat.mul_one, Nat.add_zero] at h1
      have h2 : c[base + j] = .int .i64 l[j] := by
        have e1 : c.getD (base + j) undef = c[base + j] := by simp [Array.getD_eq_getD_getElem?, hcs]
        rw [e1] at h1
        generalize c[base + j] = u at h1 ⊢
        cases h1; rfl
      refine ⟨?_, ?_⟩
      · simp [World.cell?, hh, hcs, h2, hj]
      · simp [World.frozen?, hh]
    rw [hlen]
    have hcall := AnyM.slices_Sort_int Try.mSort b0 base cap l w hH hlt hl
    rw [show (l.mergeSort fun x y => decide (x ≤ y)) = sorted l from rfl] at hcall
    refine Calls.mono (f := 42) hcall ?_
    rintro ex w' ⟨rfl, n, os, rfl⟩
    have hsz : (putRow (Value.int .i64) (Sort.ahead w n) b0 base (sorted l).toArray).heap.size = w.heap.size := by simp [putRow, mapBlock, Sort.ahead]
    have hget : ∀ k, k < w.heap.size → (grow (putRow (Value.int .i64) (Sort.ahead w n) b0 base (sorted l).toArray) os).heap[k]? = (putRow (Value.int .i64) (Sort.ahead w n) b0 base (sorted l).toArray).heap[k]? := fun k hk => by
      simp only [grow]
      rw [Array.getElem?_append_left (by omega)]
    have hb : (grow (putRow (Value.int .i64) (Sort.ahead w n) b0 base (sorted l).toArray) os).heap[b0]? = some (.cells (putCells (Value.int .i64) base (sorted l).toArray c) e (0, 0)) := by
      rw [hget b0 hlt]; exact putRow_cells (w := Sort.ahead w n) hh _
    refine ⟨rfl, ⟨rfl, rfl, rfl, ?_, fun k hk hx => ?_, fun k c' e' fr hx hk hc' => ?_⟩, _, hb, putCells_size _ _ _, fun i x j y hi hj => ?_⟩
    · show w.heap.size ≤ ((putRow (Value.int .i64) (Sort.ahead w n) b0 base (sorted l).toArray).heap ++ os).size
      rw [Array.size_append, hsz]; omega
    · exact (hget k hk).trans (putRow_other (w := Sort.ahead w n) hx _)
    · subst hx
      have hc2 : w.heap[k]? = some (.cells c' e' fr) := hc'
      rw [hh] at hc2
      cases hc2
      exact ⟨_, hb, putCells_size _ _ _⟩
    · simp only [ints_get, Option.map_eq_some_iff] at hi
      obtain ⟨z, hz, rfl⟩ := hi
      have hil : i < l.length := by have := (List.getElem?_eq_some_iff.1 hz).1; rwa [sorted_length] at this
      cases j with
      | succ j => simp [cellsOf] at hj
      | zero =>
        simp only [cellsOf, List.getElem?_cons_zero, Option.some.injEq] at hj; subst hj
        simp only [Nat.mul_one, Nat.add_zero]
        rw [putCells_get (by simp [sorted_length, hil]) (by rw [hlen] at hlc; omega)]
        have : (sorted l).toArray[i]! = z := by
          rw [getElem!_pos _ i (by simp [sorted_length, hil])]
          have := (List.getElem?_eq_some_iff.1 hz).2
          simpa using this
        rw [this]; exact .int _ _
/-! ### slices.Clone -/
section
variable {P : Program} {ρ : Ren}
set_option maxHeartbeats 1000000 in
/-- The library's contract, at whatever address. -/
theorem clone_addr (L : SlLaysE0.n41 P ρ) (i0 : TypeInfo) (z : Value) (size bytes : Nat) (hi : P.info? (ρ.t 23) = some i0) (hz0 : i0.zero = some z) (hz1 : i0.size = size) (hz2 : i0.bytes = bytes) (hzs : z.cells.size = size) (hsz : 0 < size)
    (z23 : ∀ w, (Go.sizeOf (ρ.t 23)).run P w = .ok size w) (ad : Addr) (n c : Nat) (news : List Value) (w : World) (hl : news.length = n * size) (hn : n ≤ maxLen) (hbig : n * bytes ≤ 140737488355328)
    (hc : ∀ j u, news[j]? = some u → w.cell? (ad.add j) = some u) (h1 : ∀ u ∈ news, u.oneCell' = true) :
    Calls P (ρ.f 41) #[.slice (some ad) n c] w fun e w' => ∃ v', e = .returned v' ∧ w'.ownsRow w.heap.size (ρ.t 23) size v' n news ∧ Below w.heap.size w w' := by
  have mixed := L.mixed; have t4 := L.t4; have a4 := L.a4; have z4 := L.z4; have v4 := L.v4; have t22 := L.t22; have a22 := L.a22; have z22 := L.z22; have v22 := L.v22
  have q22 : ∀ (w : World) (a : Option Addr) (n c n' c' : Nat), (binOp .eql (ρ.t 22) (.slice a n c) (.slice none n' c')).run P w = .ok (.bool a.isNone) w := fun w a n c n' c' => Lib.run_eql_slice_nil w _ _ a n c n' c' L.t22
  have u22 : ∀ w, Sem.run P (underlying (ρ.t 22)) w = .ok (TypeDesc.slice (ρ.t 23)) w := run_underlying t22
  have A : Aside (∀ j u, news[j]? = some u → w.cell? (ad.add j) = some u) := hc
  clear hc
  obtain ⟨_, _, FG⟩ := L.f41
  go_enter FG, SlBodyN.n41_ntmps ρ
  go_wp2_with (at_builtin; refine wpList_append_own _ rfl _ _ (ρ.t 22) rfl w.heap.size (ρ.t 23) i0 z size bytes t22 hi hz0 hz1 hz2 hzs hsz _ _ _ rfl (World.ownsRow_made w #[] 0 (Nat.le_refl _) (Nat.zero_le _) (by simp)) ad n c news rfl ?qc1 ?qc2 ?qc3 ?qc4 ?qc5 ?qc6 ?_)
  case qc1 => exact hl
  case qc2 =>
    intro j u hj
    exact Lib.cell?_alloc_some _ (A.out j u hj)
  case qc3 => exact h1
  case qc4 => rw [Nat.zero_add]; exact hn
  case qc5 => rw [Nat.zero_add]; exact hbig
  case qc6 => simp
  intro v' w1 hown hgrow hnil
  go_wp2
  go_ret
  refine ⟨v', rfl, by simpa using hown, ?_⟩
  exact ((Below.refl _ w).alloc (Nat.le_refl _) _).grown hgrow (by simp) (by intro k hk; simp [Value.ownBlock] at hk; omega)
end
theorem clone_row (l : List Int) (hl : l.length * 8 ≤ 140737488355328) (ro c : Bool) : Valid Try.prog 41 [(ro, .sl c 1 (ints l))] [.us 1 (ints l)] := by
  intro w Fz Fy us hzy hyl hlen hrep _
  obtain ⟨v, hv, hr⟩ := hrep 0 _ rfl
  obtain ⟨us, rfl⟩ : ∃ v', us = [v'] := List.length_eq_one_iff.1 hlen
  simp only [List.getElem?_cons_zero, Option.some.injEq] at hv; subst hv
  have key : ∀ (ad : Addr) (cap : Nat), (∀ j u, (l.map (Value.int .i64))[j]? = some u → w.cell? (ad.add j) = some u) →
      Calls Try.prog 41 #[.slice (some ad) l.length cap] w fun e w' => ∃ v us m, e = .returned v ∧ Below w.heap.size w w' ∧ Res noX Fz w w' [.us 1 (ints l)] v us m := fun ad cap hc => by
    obtain ⟨i0, hi, hi1, hi2, z, hz, hzl⟩ := ((tok (fun _ _ => none)).tt 3 _ tb3).info
    have hzs : z.cells.size = 1 := by rw [← Array.length_toList, hzl]; rfl
    have hcall := clone_addr Try.mClone i0 z 1 8 hi hz hi1 hi2 hzs (by omega) (fun w => run_sizeOf' (tok (fun _ _ => none)) tb3 w) ad l.length cap (l.map (Value.int .i64)) w (by simp) (by unfold maxLen; omega) hl hc (by simp [Value.oneCell'])
    refine Calls.mono (f := 41) hcall ?_
    rintro e w' ⟨v', rfl, ⟨_, hown⟩, hb⟩
    rcases hown with ⟨rfl, h0⟩ | ⟨g, cap', cur, rfl, hg, hh, hn, hcm, hcs, htk⟩
    · have : l = [] := List.eq_nil_of_length_eq_zero h0
      subst this
      exact ⟨_, [.slice none 0 0], fun _ => none, rfl, hb, rfl, rfl, fun j r hj => by
        match j, hj with
        | 0, hj => cases hj; exact ⟨_, rfl, .us 1 [] _ (.own 0 0 0 none 0 1 0 rfl (by simp) (by simp) (.inl rfl)) (.nil 1)⟩, (fun j b base hm => by cases hm), (fun i j b base b' base' _ hm => by cases hm)⟩
    · refine ⟨_, [.slice (some ⟨g, 0, none⟩) l.length cap'], fun j => if j = 0 then some (g, 0) else none, rfl, hb, rfl, rfl, fun j r hj => ?_, fun j b base hm => ?_, fun i j b base b' base' hij hm hm' => ?_⟩
      · match j, hj with
        | 0, hj =>
          cases hj
          refine ⟨_, rfl, .us 1 (ints l) _ ?_ ?_⟩
          · have hv := RepV.own (Fz := newX noX Fz w w' fun j => if j = 0 then some (g, 0) else none) (Fy := newX noX Fz w w' fun j => if j = 0 then some (g, 0) else none) (w := w') (μ := fun _ => some (g, 0)) (sh := fun _ => some (1, (ints l).length)) 0 0 (ints l).length (some ⟨g, 0, none⟩) cap' 1 (ints l).length rfl (by omega) (by simpa using hn) (.inr ⟨g, 0, rfl, by simp, cur, _, hh, by simp [hcs]⟩)
            simp only [ints_length] at hv ⊢
            exact hv
          · refine RepB.arr (μ := fun _ => some (g, 0)) 1 (ints l) g 0 cur _ rfl hh (by simp; omega) (fun i x hx => ?_) fun i x j y hi hj => ?_
            · simp only [ints_get, Option.map_eq_some_iff] at hx
              obtain ⟨y, _, rfl⟩ := hx; rfl
            · simp only [ints_get, Option.map_eq_some_iff] at hi
              obtain ⟨z, hz, rfl⟩ := hi
              cases j with
              | succ j => simp [cellsOf] at hj
              | zero =>
                simp only [cellsOf, List.getElem?_cons_zero, Option.some.injEq] at hj; subst hj
                have hil := (List.getElem?_eq_some_iff.1 hz).1
                have e1 : cur[i]? = some (.int .i64 z) := by
                  have := congrArg (·[i]?) htk
                  simp only [List.getElem?_take, Nat.mul_one, hil, if_true, Array.getElem?_toList, List.getElem?_map, hz, Option.map_some] at this
                  exact this
                have e2 : cur.getD (0 + (i * 1 + 0)) undef = .int .i64 z := by simp [Array.getD_eq_getD_getElem?, e1]
                rw [e2]; exact .int _ _
      · split at hm
        · simp only [Option.some.injEq, Prod.mk.injEq] at hm
          obtain ⟨rfl, rfl⟩ := hm
          exact ⟨.inl hg, (Array.getElem?_eq_some_iff.1 hh).1⟩
        · cases hm
      · split at hm
        · split at hm'
          · omega
          · cases hm'
        · cases hm
  have hn : ∀ cap, Calls Try.prog 41 #[.slice none 0 cap] w fun e w' => l = [] → ∃ v us m, e = .returned v ∧ Below w.heap.size w w' ∧ Res noX Fz w w' [.us 1 (ints l)] v us m := fun cap => by
    refine Calls.mono (f := 41) (AnyE.slices_Clone_nil Try.mClone 0 cap w) ?_
    rintro e w' ⟨rfl, rfl⟩ rfl
    exact ⟨_, [.slice none 0 0], fun _ => none, rfl, Below.refl _ _, rfl, rfl, fun j r hj => by
      match j, hj with
      | 0, hj => cases hj; exact ⟨_, rfl, .us 1 [] _ (.own 0 0 0 none 0 1 0 rfl (by simp) (by simp) (.inl rfl)) (.nil 1)⟩, (fun j b base hm => by cases hm), (fun i j b base b' base' _ hm => by cases hm)⟩
  obtain ⟨xs, hxs⟩ : ∃ xs, ints l = xs := ⟨_, rfl⟩
  simp only [hxs] at hr
  cases hr with
  | sl0 _ _ a cap hc =>
    have h0 : l = [] := by cases l with
      | nil => rfl
      | cons x l => simp at hxs
    subst h0
    cases a with
    | none => exact (hn cap).mono fun e w' h => h rfl
    | some ad => exact key ad cap (by simp)
  | sl _ _ _ b o len cap us hlen2 hcap hclip hb hsz hc hr =>
    have hll : len = l.length := by rw [← hlen2, ← hxs]; simp
    subst hll
    refine key ⟨b, o, none⟩ cap fun j u hu => ?_
    simp only [List.getElem?_map, Option.map_eq_some_iff] at hu
    obtain ⟨z, hz, rfl⟩ := hu
    have hx : xs[j]? = some (.int .i64 z) := by rw [← hxs]; simp [hz]
    have h1 := hc j _ 0 _ hx rfl
    have h2 := hr j _ 0 _ hx rfl
    have h3 : us j 0 = .int .i64 z := by
      generalize us j 0 = q at h2 ⊢
      cases h2; rfl
    rw [h3] at h1
    rw [add_zero' _ rfl]
    simpa using h1
end E
end Go.Proofs.Ytidiigajhbegeaa
