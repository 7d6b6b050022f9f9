/-
  The engine, part t: maps of the frame's own. Conditions: none; it is stated of any program and table of its types.
-/
import Derived.Test.YtoafhoihigfllaaEo
import Derived.MapKept
import Derived.RangeFuncRecord
namespace Go.Proofs.Ytoafhoihigfllaa.E
open Go Go.RowKit
set_option linter.unusedVariables false

/-- Are two keys the same? -/
def kmatch (G : Pg) (t : Nat) (x y : FV) : Option Bool :=
  match lk t G.tbl with
  | some ⟨_, _, _, .int⟩ => match x, y with
    | .int k a, .int j b => if k = j then some (a == b) else none
    | _, _ => none
  | some ⟨_, _, _, .bool⟩ => match x, y with
    | .bool a, .bool b => some (a == b)
    | _, _ => none
  | some ⟨_, _, _, .string⟩ => match x, y with
    | .str a, .str b => some (a == b)
    | _, _ => none
  | some ⟨_, _, _, .struct _⟩ => match x, y with
    | .agg xs, .agg ys => match lk t G.eqs with
      | some n => if xs.length = n.1 ∧ G.keys.contains t = true then fscals n.2 xs ys else none
      | none => none
    | _, _ => none
  | _ => none
def findF (m : FV → Option Bool) : Nat → List (FV × FV) → Option (Option (Nat × FV))
  | _, [] => some none
  | i, (k, v) :: r => match m k with
    | some true => some (some (i, v))
    | some false => findF m (i + 1) r
    | none => none
section
variable {C : Base} {σ : St} {a : Act} {w w' : World} {μ : Mu} {Fz Fy : Nat → Prop} {G : Pg}
theorem fscals_refl {q : Bool} : ∀ {xs ys : List FV} {us vs : List Value} {Z Z' : Nat → Prop}, fscals q xs ys = some true → us.length = xs.length → vs.length = ys.length →
    (∀ j y, xs[j]? = some y → RepF Z w y (us.getD j undef)) → (∀ j y, ys[j]? = some y → RepF Z' w y (vs.getD j undef)) → us = vs ∧ xs = ys
  | [], [], [], [], _, _, _, _, _, _, _ => ⟨rfl, rfl⟩
  | x :: xs, y :: ys, u :: us, v :: vs, Z, Z', h, hu, hv, h1, h2 => by
    simp only [fscals] at h
    split at h
    · rename_i p r hp hr
      simp only [Option.some.injEq, Bool.and_eq_true] at h
      obtain ⟨rfl, rfl⟩ := h
      obtain ⟨e1, e2⟩ := fscals_refl hr (by simpa using hu) (by simpa using hv) (fun j z hj => by simpa using h1 (j + 1) z (by simpa using hj)) (fun j z hj => by simpa using h2 (j + 1) z (by simpa using hj))
      have k1 := h1 0 x rfl
      have k2 := h2 0 y rfl
      simp only [List.getD_cons_zero] at k1 k2
      unfold fscal at hp
      split at hp
      · split at hp
        · rename_i hc
          simp only [Option.some.injEq, beq_iff_eq] at hp
          obtain ⟨_, rfl⟩ := hc; subst hp
          cases k1; cases k2
          exact ⟨by rw [e1], by rw [e2]⟩
        · cases hp
      · split at hp
        · simp only [Option.some.injEq, beq_iff_eq] at hp; subst hp
          cases k1; cases k2
          exact ⟨by rw [e1], by rw [e2]⟩
        · cases hp
      · cases hp
    · cases h
  | [], _ :: _, _, _, _, _, h, _, _, _, _ => by simp [fscals] at h
  | _ :: _, [], _, _, _, _, h, _, _, _, _ => by simp [fscals] at h
  | [], [], _ :: _, _, _, _, _, hu, _, _, _ => by simp at hu
  | [], [], [], _ :: _, _, _, _, _, hv, _, _ => by simp at hv
  | _ :: _, _ :: _, [], _, _, _, _, hu, _, _, _ => by simp at hu
  | _ :: _, _ :: _, _ :: _, [], _, _, _, _, hv, _, _ => by simp at hv
/-- The kinds of which two keys are told apart at once. -/
def plainK : TK → Bool
  | .int => true
  | .bool => true
  | .string => true
  | _ => false
theorem kmatch_plain (hT : TOk G) {t : Nat} {ti : TI} (ht : lk t G.tbl = some ti) (hp : plainK ti.kind = true) {d : TypeDesc} (hd : G.P.underlying t = some d) {x y : FV} {r : Bool} (h : kmatch G t x y = some r) {Z Z' : Nat → Prop} {u v : Value} (hx : RepF Z w x u) (hy : RepF Z' w y v) :
    Instr.sameNow d u v = some r ∧ (r = true → u = v) := by
  obtain ⟨d', h1, h2⟩ := (hT.tt t ti ht).under
  rw [hd] at h1
  simp only [Option.some.injEq] at h1; subst h1
  obtain ⟨sz, bt, zr, kd⟩ := ti
  unfold kmatch at h
  rw [ht] at h
  cases kd with
  | int =>
    obtain ⟨q, rfl⟩ := h2
    simp only at h
    split at h
    · split at h
      · rename_i hc; subst hc
        simp only [Option.some.injEq] at h; subst h
        cases hx; cases hy
        exact ⟨by simp [Instr.sameNow], fun e => by simp at e; rw [e]⟩
      · cases h
    · cases h
  | bool =>
    have e : d = .bool := h2
    subst e
    simp only at h
    split at h
    · simp only [Option.some.injEq] at h; subst h
      cases hx; cases hy
      exact ⟨by simp [Instr.sameNow], fun e => by simp at e; rw [e]⟩
    · cases h
  | string =>
    have e : d = .string := h2
    subst e
    simp only at h
    split at h
    · simp only [Option.some.injEq] at h; subst h
      cases hx; cases hy
      exact ⟨by simp [Instr.sameNow], fun e => by rw [(MapKept.bytes_beq _ _).1 e]⟩
    · cases h
  | _ => simp [plainK] at hp
theorem kmatch_agg (hT : TOk G) {t : Nat} {ti : TI} (ht : lk t G.tbl = some ti) (hp : plainK ti.kind = false) {d : TypeDesc} (hd : G.P.underlying t = some d) {x y : FV} {r : Bool} (h : kmatch G t x y = some r) {Z Z' : Nat → Prop} {u v : Value} (hx : RepF Z w x u) (hy : RepF Z' w y v) :
    (∀ a b, Instr.sameNow d a b = none) ∧ (Op.equal t u v).run G.P w = .ok r w ∧ (r = true → u = v) := by
  obtain ⟨d', h1, h2⟩ := (hT.tt t ti ht).under
  rw [hd] at h1
  simp only [Option.some.injEq] at h1; subst h1
  obtain ⟨sz, bt, zr, kd⟩ := ti
  unfold kmatch at h
  rw [ht] at h
  cases kd with
  | struct fs =>
    obtain ⟨fields, rfl, _⟩ := h2
    simp only at h
    split at h
    · rename_i xs ys
      split at h
      · rename_i n hn
        split at h
        · rename_i hc
          cases hx with
          | agg _ us hus hru =>
          cases hy with
          | agg _ vs hvs hrv =>
          have e := fscals_sound (us := us.toList) (vs := vs.toList) h (by simpa using hus) (by simpa using hvs) (fun j y hj => by have := hru j y hj; simpa [Array.getD_eq_getD_getElem?, List.getD_eq_getElem?_getD] using this) (fun j y hj => by have := hrv j y hj; simpa [Array.getD_eq_getD_getElem?, List.getD_eq_getElem?_getD] using this)
          refine ⟨fun a b => by cases a <;> cases b <;> rfl, (hT.ee t n hn).eq us vs r w (by rw [hus, hc.1]) e, fun er => ?_⟩
          subst er
          obtain ⟨e1, _⟩ := fscals_refl (us := us.toList) (vs := vs.toList) h (by simpa using hus) (by simpa using hvs) (fun j y hj => by have := hru j y hj; simpa [Array.getD_eq_getD_getElem?, List.getD_eq_getElem?_getD] using this) (fun j y hj => by have := hrv j y hj; simpa [Array.getD_eq_getD_getElem?, List.getD_eq_getElem?_getD] using this)
          rw [Array.toList_inj.1 e1]
        · cases h
      · cases h
    · cases h
  | int => simp [plainK] at hp
  | bool => simp [plainK] at hp
  | string => simp [plainK] at hp
  | _ => simp at h
/-- The entries of a map stand for pairs. -/
def Ents (Fz : Nat → Prop) (w : World) (fs : List (FV × FV)) (es : List MapEntry) : Prop := es.length = fs.length ∧ ∀ (j : Nat) (y : FV × FV), fs[j]? = some y → ∃ m, es[j]? = some m ∧ RepF Fz w y.1 m.key ∧ RepF Fz w y.2 m.val
theorem find_now {t : Nat} {d : TypeDesc} {x : FV} {u : Value} (hm : ∀ (y : FV) (v : Value) (r : Bool), kmatch G t x y = some r → RepF Fz w y v → Instr.sameNow d u v = some r ∧ (r = true → u = v)) : ∀ {fs : List (FV × FV)} {es : List MapEntry} {i : Nat} {res : Option (Nat × FV)}, findF (kmatch G t x) i fs = some res → Ents Fz w fs es →
    (res = none ∧ Instr.findNow d u es i = some none) ∨ ∃ j y e, res = some (i + j, y) ∧ es[j]? = some e ∧ fs[j]?.map (·.2) = some y ∧ e.key = u ∧ RepF Fz w y e.val ∧ Instr.findNow d u es i = some (some (i + j, e.val))
  | [], [], i, res, h, _ => by
    simp only [findF, Option.some.injEq] at h
    exact .inl ⟨h.symm, rfl⟩
  | (k, v) :: fs, e :: es, i, res, h, he => by
    obtain ⟨m, hm0, hk, hv⟩ := he.2 0 (k, v) rfl
    simp only [List.getElem?_cons_zero, Option.some.injEq] at hm0; subst hm0
    simp only [findF] at h
    split at h
    · rename_i hr
      obtain ⟨h1, h2⟩ := hm k e.key true hr hk
      simp only [Option.some.injEq] at h; subst h
      exact .inr ⟨0, v, e, rfl, rfl, rfl, (h2 rfl).symm, hv, by simp [Instr.findNow, h1]⟩
    · rename_i hr
      obtain ⟨h1, _⟩ := hm k e.key false hr hk
      rcases find_now hm h ⟨by simpa using he.1, fun j y hj => by simpa using he.2 (j + 1) y (by simpa using hj)⟩ with ⟨k1, k2⟩ | ⟨j, y, e', k1, k2, k3, k4, k5, k6⟩
      · exact .inl ⟨k1, by simp [Instr.findNow, h1, k2]⟩
      · exact .inr ⟨j + 1, y, e', by rw [k1]; simp; omega, by simpa using k2, by simpa using k3, k4, k5, by simp [Instr.findNow, h1, k6]; omega⟩
    · cases h
  | [], _ :: _, _, _, _, he => by have := he.1; simp at this
  | _ :: _, [], _, _, _, he => by have := he.1; simp at this
theorem find_asking {t : Nat} {x : FV} {u : Value} (hm : ∀ (y : FV) (v : Value) (r : Bool), kmatch G t x y = some r → RepF Fz w y v → (Op.equal t u v).run G.P w = .ok r w ∧ (r = true → u = v)) : ∀ {fs : List (FV × FV)} {es : List MapEntry} {i : Nat} {res : Option (Nat × FV)}, findF (kmatch G t x) i fs = some res → Ents Fz w fs es →
    (res = none ∧ (Instr.findAsking t u es i).run G.P w = .ok none w) ∨ ∃ j y e, res = some (i + j, y) ∧ es[j]? = some e ∧ fs[j]?.map (·.2) = some y ∧ e.key = u ∧ RepF Fz w y e.val ∧ (Instr.findAsking t u es i).run G.P w = .ok (some (i + j, e.val)) w
  | [], [], i, res, h, _ => by
    simp only [findF, Option.some.injEq] at h
    exact .inl ⟨h.symm, rfl⟩
  | (k, v) :: fs, e :: es, i, res, h, he => by
    obtain ⟨m, hm0, hk, hv⟩ := he.2 0 (k, v) rfl
    simp only [List.getElem?_cons_zero, Option.some.injEq] at hm0; subst hm0
    simp only [findF] at h
    split at h
    · rename_i hr
      obtain ⟨h1, h2⟩ := hm k e.key true hr hk
      simp only [Option.some.injEq] at h; subst h
      exact .inr ⟨0, v, e, rfl, rfl, rfl, (h2 rfl).symm, hv, by simp [Instr.findAsking, h1, Sem.run_bind]⟩
    · rename_i hr
      obtain ⟨h1, _⟩ := hm k e.key false hr hk
      rcases find_asking hm h ⟨by simpa using he.1, fun j y hj => by simpa using he.2 (j + 1) y (by simpa using hj)⟩ with ⟨k1, k2⟩ | ⟨j, y, e', k1, k2, k3, k4, k5, k6⟩
      · exact .inl ⟨k1, by simp [Instr.findAsking, h1, k2, Sem.run_bind]⟩
      · refine .inr ⟨j + 1, y, e', by rw [k1]; simp; omega, by simpa using k2, by simpa using k3, k4, k5, ?_⟩
        simp only [Instr.findAsking, Sem.run_bind, h1, Result.andThen_ok, Bool.false_eq_true, if_false, k6]
        rw [show i + 1 + j = i + (j + 1) from by omega]
    · cases h
  | [], _ :: _, _, _, _, he => by have := he.1; simp at this
  | _ :: _, [], _, _, _, he => by have := he.1; simp at this
theorem findKey_sound (hT : TOk G) {t : Nat} {ti : TI} (ht : lk t G.tbl = some ti) {Z : Nat → Prop} {x : FV} {u : Value} (hx : RepF Z w x u) {fs : List (FV × FV)} {es : List MapEntry} {res : Option (Nat × FV)} (h : findF (kmatch G t x) 0 fs = some res) (he : Ents Fz w fs es) :
    (res = none ∧ (Instr.findKey t u es).run G.P w = .ok none w) ∨ ∃ j y e, res = some (j, y) ∧ es[j]? = some e ∧ fs[j]?.map (·.2) = some y ∧ e.key = u ∧ RepF Fz w y e.val ∧ (Instr.findKey t u es).run G.P w = .ok (some (j, e.val)) w := by
  obtain ⟨d, hd, _⟩ := (hT.tt t ti ht).under
  have hu : (underlying t).run G.P w = .ok d w := by simp [underlying, hd]
  cases hp : plainK ti.kind with
  | true =>
    rcases find_now (d := d) (u := u) (fun y v r hr hy => kmatch_plain hT ht hp hd hr hx hy) h he with ⟨k1, k2⟩ | ⟨j, y, e, k1, k2, k3, k4, k5, k6⟩
    · exact .inl ⟨k1, by simp [Instr.findKey, Sem.run_bind, hu, k2]⟩
    · exact .inr ⟨j, y, e, by simpa using k1, k2, k3, k4, k5, by simp [Instr.findKey, Sem.run_bind, hu, k6]⟩
  | false =>
    have hm : ∀ (y : FV) (v : Value) (r : Bool), kmatch G t x y = some r → RepF Fz w y v → (Op.equal t u v).run G.P w = .ok r w ∧ (r = true → u = v) := fun y v r hr hy => (kmatch_agg hT ht hp hd hr hx hy).2
    match fs, es, he, h with
    | [], [], _, h =>
      simp only [findF, Option.some.injEq] at h
      exact .inl ⟨h.symm, by simp [Instr.findKey, hu, Instr.findNow]⟩
    | (k, v) :: fs, e :: es, he, h =>
      have hn : Instr.findNow d u (e :: es) 0 = none := by
        obtain ⟨m, hm0, hk, hv⟩ := he.2 0 (k, v) rfl
        have : ∃ r, kmatch G t x k = some r := by
          simp only [findF] at h
          split at h
          · exact ⟨_, ‹_›⟩
          · exact ⟨_, ‹_›⟩
          · cases h
        obtain ⟨r, hr⟩ := this
        have := (kmatch_agg hT ht hp hd hr hx hk).1
        simp [Instr.findNow, this]
      have hrun : ∀ z, (Instr.findAsking t u (e :: es) 0).run G.P w = z → (Instr.findKey t u (e :: es)).run G.P w = z := fun z hz => by simp [Instr.findKey, Sem.run_bind, hu, hn, hz]
      rcases find_asking hm h he with ⟨k1, k2⟩ | ⟨j, y, e', k1, k2, k3, k4, k5, k6⟩
      · exact .inl ⟨k1, hrun _ k2⟩
      · exact .inr ⟨j, y, e', by simpa using k1, k2, k3, k4, k5, by rw [Nat.zero_add] at k6; exact hrun _ k6⟩
    | [], _ :: _, he, _ => have := he.1; simp at this
    | _ :: _, [], he, _ => have := he.1; simp at this
/-- A key that may be one. -/
def keyOK (G : Pg) (t : Nat) (x : FV) : Bool :=
  match kmatch G t x x with
  | some true => true
  | _ => false
theorem bits_scalars {q : Bool} : ∀ (l : List Value), eqvs q l l = some true → (l.zip l).all (fun (x, y) => Instr.sameBits 9999 x y) = true
  | [], _ => rfl
  | v :: l, h => by
    simp only [eqvs] at h
    split at h
    · rename_i p r hp hr
      simp only [Option.some.injEq, Bool.and_eq_true] at h
      obtain ⟨rfl, rfl⟩ := h
      simp only [List.zip_cons_cons, List.all_cons, bits_scalars l hr, Bool.and_true]
      cases v with
      | int k a => show (k == k && a == a) = true; simp
      | bool c => show (c == c) = true; simp
      | _ => simp [eqv] at hp
    · cases h
theorem check_plain {P : Program} {t : Nat} {d : TypeDesc} {w : World} (hd : P.underlying t = some d) (h : plainK (match d with | .int _ => .int | .bool => .bool | .string => .string | _ => .other) = true) (em : Bool) (u : Value) : (Instr.checkKey em 10000 t u).run P w = .ok () w := by
  rw [show (10000 : Nat) = 9999 + 1 from rfl, Instr.checkKey]
  simp only [Sem.run_bind, underlying, run_program, hd, Result.andThen_ok, Sem.run_pure]
  cases d <;> first | rfl | (simp [plainK] at h)
theorem stays_same {P : Program} {w : World} {u : Value} (h : Instr.sameBits 10000 u u = true) : (Instr.keyThatStays u u).run P w = .ok u w := by
  unfold Instr.keyThatStays
  rw [if_pos h]; rfl
theorem keyOK_sound (hT : TOk G) {t : Nat} {ti : TI} (ht : lk t G.tbl = some ti) {x : FV} (h : keyOK G t x = true) {Z : Nat → Prop} {u : Value} (hx : RepF Z w x u) (em : Bool) : (Instr.checkKey em 10000 t u).run G.P w = .ok () w ∧ (Instr.keyThatStays u u).run G.P w = .ok u w := by
  unfold keyOK at h
  split at h
  · rename_i hm
    obtain ⟨d, hd, hk⟩ := (hT.tt t ti ht).under
    obtain ⟨sz, bt, zr, kd⟩ := ti
    unfold kmatch at hm
    rw [ht] at hm
    cases kd with
    | int =>
      obtain ⟨q, rfl⟩ := hk
      cases x with
      | int k a => cases hx; exact ⟨check_plain hd rfl em _, stays_same (by show (_ == _ && _ == _) = true; simp)⟩
      | _ => simp at hm
    | bool =>
      have e : d = .bool := hk
      subst e
      cases x with
      | bool a => cases hx; exact ⟨check_plain hd rfl em _, stays_same (by show (_ == _) = true; simp)⟩
      | _ => simp at hm
    | string =>
      have e : d = .string := hk
      subst e
      cases x with
      | str a =>
        cases hx
        refine ⟨check_plain hd rfl em _, stays_same ?_⟩
        show (a == a) = true
        simpa using hm
      | _ => simp at hm
    | struct fs =>
      cases x with
      | agg xs =>
        simp only at hm
        split at hm
        · rename_i n hn
          split at hm
          · rename_i hc
            cases hx with
            | agg _ us hus hru =>
            have hru' : ∀ (j : Nat) (y : FV), xs[j]? = some y → RepF Z w y (us.toList.getD j undef) := fun j y hj => by have := hru j y hj; simpa [Array.getD_eq_getD_getElem?, List.getD_eq_getElem?_getD] using this
            have e := fscals_sound (us := us.toList) (vs := us.toList) hm (by simpa using hus) (by simpa using hus) hru' hru'
            refine ⟨hT.kk t n (by simpa using hc.2) hn us em w (by rw [hus, hc.1]) e, stays_same ?_⟩
            show (us.size == us.size && (us.toList.zip us.toList).all fun (x, y) => Instr.sameBits 9999 x y) = true
            simp only [BEq.rfl, Bool.true_and]; exact bits_scalars us.toList e
          · cases hm
        · cases hm
      | _ => simp at hm
    | _ => simp at hm
  · cases h
/-! ### The operations -/
def mkMapA (σ : St) (d : Nat) : St := σ.mk' d (.mp []) (.map d)
def lookMap (G : Pg) (σ : St) (t : Nat) (p : V) (x : FV) (ok : Bool) : Option V :=
  match lk t G.tbl with
  | some ⟨_, _, _, .map kt et⟩ => match p with
    | .map s => match lk s σ.blk, lk kt G.tbl, lk et G.tbl with
      | some (.mp es), some _, some ti => match ti.kind.agg, ti.zero with
        | false, [z] => if keyOK G kt x = true then match findF (kmatch G kt x) 0 es with
            | some (some (_, v)) => some (if ok = true then .tup [.fv false v, .fv false (.bool true)] else .fv false v)
            | some none => some (if ok = true then .tup [.fv false z, .fv false (.bool false)] else .fv false z)
            | none => none
          else none
        | _, _ => none
      | _, _, _ => none
    | _ => none
  | _ => none
def updMap (G : Pg) (σ : St) (t : Nat) (p k x : V) : Option St :=
  match lk t G.tbl with
  | some ⟨_, _, _, .map kt _⟩ => match p with
    | .map s => match lk s σ.blk, lk kt G.tbl, elemA σ k, elemA σ x with
      | some (.mp es), some _, some ([], kx), some (ns, y) =>
        if keyOK G kt kx = true ∧ flat kx = true ∧ ns.contains s = false then match findF (kmatch G kt kx) 0 es with
          | some (some (i, _)) => some { frees σ ns with blk := put s (.mp (es.set i (kx, y))) (frees σ ns).blk }
          | some none => some { frees σ ns with blk := put s (.mp (es ++ [(kx, y)])) (frees σ ns).blk }
          | none => none
        else none
      | _, _, _, _ => none
    | _ => none
  | _ => none
theorem mkMapA_sound (h : Sim C σ a w μ Fz Fy) {d : Nat} (hd : d < C.N) (P : Program) (t : TypeId) : ∃ u w' μ', (Instr.makeMap t none).run P w = .ok u w' ∧ Sim C (mkMapA σ d) (a.put (some d) u) w' μ' Fz Fy := by
  refine ⟨.map (some w.heap.size), w.alloc (.map #[] 0), _, by simp [Instr.makeMap], h.made hd (stays_alloc h _) (some (w.heap.size, 0)) _ _ _ (new_free h _) ?_ ?_⟩
  · exact .mp [] w.heap.size #[] 0 (by simp [setMu]) (heap_new _ _) rfl (by simp)
  · exact .map d w.heap.size 0 (by simp [setMu])
theorem ents_of {s : Nat} {es : List (FV × FV)} (hB : RepB μ (shs σ) Fz Fy w s (.mp es)) : ∃ b c k, μ s = some (b, 0) ∧ w.heap[b]? = some (.map c k) ∧ Ents Fz w es c.toList := by
  cases hB with
  | mp _ b c k hm hh hc hr =>
    refine ⟨b, c, k, hm, hh, by simpa using hc, fun j y hj => ?_⟩
    obtain ⟨m, h1, h2, h3⟩ := hr j y hj
    exact ⟨m, by simpa using h1, h2, h3⟩
theorem map_val {s : Nat} {v : Value} (hs : lk s σ.blk ≠ none) (hv : RepV μ (shs σ) Fz Fy w (.map s) v) : ∃ b base, μ s = some (b, base) ∧ v = .map (some b) := by
  cases hv with
  | mapx _ _ h =>
    exfalso
    cases hb : lk s σ.blk with
    | none => exact hs hb
    | some x => simp [shs, hb] at h
  | map _ b base hm => exact ⟨b, base, hm, rfl⟩
theorem lookMap_sound (hT : TOk G) (h : Sim C σ a w μ Fz Fy) {t : Nat} {p r : V} {x : FV} {ok : Bool} (hl : lookMap G σ t p x ok = some r) {v : Value} (hv : RepV μ (shs σ) Fz Fy w p v) {Z : Nat → Prop} {u : Value} (hx : RepF Z w x u) :
    ∃ y, (Instr.lookup t v u ok).run G.P w = .ok y w ∧ RepV μ (shs σ) Fz Fy w r y := by
  unfold lookMap at hl
  split at hl
  · rename_i sz bt zr kt et htm
    split at hl
    · rename_i s
      split at hl
      · rename_i es tik ti hb hk he
        split at hl
        · rename_i z hag hz
          split at hl
          · rename_i hkey
            obtain ⟨b, c, kc, hm, hh, hen⟩ := ents_of (h.blk s _ hb)
            obtain ⟨b', base, hm', rfl⟩ := map_val (by simp [hb]) hv
            rw [hm] at hm'
            simp only [Option.some.injEq, Prod.mk.injEq] at hm'
            obtain ⟨rfl, _⟩ := hm'
            obtain ⟨dm, hdm, hkm⟩ := (hT.tt t _ htm).under
            have hdm' : dm = .map kt et := hkm
            subst hdm'
            have hu : (underlying t).run G.P w = .ok (.map kt et) w := by simp [underlying, hdm]
            obtain ⟨hck, _⟩ := keyOK_sound hT hk hkey hx c.isEmpty
            have hzero := hT.zv et ti z he hag hz w
            have hgz : zgood z = true := by have := (hT.tt et ti he).good; rw [hz] at this; simpa using this
            have hobj : (getObj b).run G.P w = .ok (.map c kc) w := MapKept.run_getObj_map hh
            split at hl
            · rename_i i y hf
              simp only [Option.some.injEq] at hl; subst hl
              rcases findKey_sound hT hk hx hf hen with ⟨k1, _⟩ | ⟨j, y', e, k1, k2, k3, k4, k5, k6⟩
              · cases k1
              · simp only [Option.some.injEq, Prod.mk.injEq] at k1
                obtain ⟨rfl, rfl⟩ := k1
                refine ⟨if ok = true then .tuple #[e.val, .bool true] else e.val, ?_, ?_⟩
                · simp [Instr.lookup, hu, Sem.run_bind, hobj, hck, k6]
                · cases ok with
                  | false => exact .fv _ _ _ k5
                  | true =>
                    refine .tup _ _ rfl fun j yy hj => ?_
                    match j, hj with
                    | 0, hj => cases hj; exact .fv _ _ _ k5
                    | 1, hj => cases hj; exact .fv _ _ _ (.bool _)
            · rename_i hf
              simp only [Option.some.injEq] at hl; subst hl
              rcases findKey_sound hT hk hx hf hen with ⟨_, k2⟩ | ⟨j, y', e, k1, _⟩
              · refine ⟨if ok = true then .tuple #[cval z, .bool false] else cval z, ?_, ?_⟩
                · simp [Instr.lookup, hu, Sem.run_bind, hobj, hck, k2, hzero]
                · cases ok with
                  | false => exact .fv _ _ _ (rep_cval hgz)
                  | true =>
                    refine .tup _ _ rfl fun j yy hj => ?_
                    match j, hj with
                    | 0, hj => cases hj; exact .fv _ _ _ (rep_cval hgz)
                    | 1, hj => cases hj; exact .fv _ _ _ (.bool _)
              · cases k1
            · cases hl
          · cases hl
        · cases hl
      · cases hl
    · cases hl
  · cases hl
theorem setMap_stays (h : Sim C σ a w μ Fz Fy) {s b : Nat} (hs : lk s σ.blk ≠ none) (hm : μ s = some (b, 0)) {c c' : Array MapEntry} {k k' : Nat} (hh : w.heap[b]? = some (.map c k)) :
    Stays C (σ.drop s) w (w.putObj b (.map c' k')) μ Fy := by
  have hlive := h.live s hs b 0 hm
  have hother : ∀ r, r ≠ b → (w.putObj b (.map c' k')).heap[r]? = w.heap[r]? := fun r hr => World.putObj_heap_other hr
  refine { keeps := fun r x e' fr hx => ⟨x, (hother r (fun e => by subst e; rw [hh] at hx; cases hx)).trans hx, rfl⟩, fixed := fun r hr => hother r (fun e => hlive.2.2 (e ▸ hr)), own := fun t ht r base' hr => hother r (fun e => ?_), below := ?_, size := by simp, rest := fun r hr => hother r (fun e => (h.fm r hr).2.2 s hs 0 (e ▸ hm)) }
  · simp only [St.drop, lk_rm] at ht
    by_cases et : t = s
    · simp [et] at ht
    · simp only [et, if_false] at ht
      exact h.inj t s ht hs et r base' b 0 hr hm e
  · have hB := h.below
    refine ⟨hB.os, hB.tape, hB.output, by simpa using hB.size, fun q hq hx => (hother q (fun e => ?_)).trans (hB.block q hq hx), fun q x e fr hx hq hc => ?_⟩
    · subst e
      rcases hlive.1 with k1 | k1
      · omega
      · exact hx k1
    · obtain ⟨x', e1, e2⟩ := hB.kept q x e fr hx hq hc
      exact ⟨x', (hother q (fun e => by subst e; rw [hh] at e1; cases e1)).trans e1, e2⟩
theorem updMap_sound (hT : TOk G) (h : Sim C σ a w μ Fz Fy) {t : Nat} {p kv x : V} {σ' : St} (hs : updMap G σ t p kv x = some σ') {v uk ux : Value} (hv : RepV μ (shs σ) Fz Fy w p v) (hk : RepV μ (shs σ) Fz Fy w kv uk) (hx : RepV μ (shs σ) Fz Fy w x ux) :
    ∃ w' Fz' Fy', (Instr.mapUpdate t v uk ux).run G.P w = .ok () w' ∧ Sim C σ' a w' μ Fz' Fy' := by
  unfold updMap at hs
  split at hs
  · rename_i sz bt zr kt et htm
    split at hs
    · rename_i s
      split at hs
      · rename_i es tik kx ns y hb hkt he1 he2
        split at hs
        · rename_i hc
          obtain ⟨hkey, hflat, hns⟩ := hc
          obtain ⟨_, hkr⟩ := elemA_sound h he1 hk
          obtain ⟨hnl, hyr⟩ := elemA_sound h he2 hx
          have hfz := h.freezes hnl
          have hsn : s ∉ ns := fun hm => by
            have : ns.contains s = true := by simpa using hm
            rw [hns] at this; cases this
          have hb' : lk s (frees σ ns).blk = some (.mp es) := by rw [blk_frees, if_neg hsn]; exact hb
          obtain ⟨b, c, kc, hm, hh, hen⟩ := ents_of (hfz.blk s _ hb')
          obtain ⟨b', base, hm', rfl⟩ := map_val (by simp [hb]) hv
          rw [hm] at hm'
          simp only [Option.some.injEq, Prod.mk.injEq] at hm'
          obtain ⟨rfl, _⟩ := hm'
          obtain ⟨dm, hdm, hkm⟩ := (hT.tt t _ htm).under
          have hdm' : dm = .map kt et := hkm
          subst hdm'
          have hu : (underlying t).run G.P w = .ok (.map kt et) w := by simp [underlying, hdm]
          have hkf : ∀ Z' W', RepF Z' W' kx uk := fun Z' W' => hkr.of_flat hflat
          obtain ⟨hck, hst⟩ := keyOK_sound hT hkt hkey (hkf (fun _ => False) w) false
          have hobj : (getObj b).run G.P w = .ok (.map c kc) w := MapKept.run_getObj_map hh
          have hcl : c.size = es.length := by have := hen.1; simpa using this
          have hshp : ∀ es', shp (Blk.mp es') = shp (Blk.mp es) := fun _ => rfl
          have hfixed : ∀ {c' k'} b0, Of μ Fz ns b0 → (w.putObj b (.map c' k')).heap[b0]? = w.heap[b0]? := fun b0 hb0 => by
            have hlive := hfz.live s (by simp [hb']) b 0 hm
            exact World.putObj_heap_other fun e => hlive.2.2 (hfz.zy _ (e ▸ hb0))
          split at hs
          · rename_i i y0 hf
            simp only [Option.some.injEq] at hs; subst hs
            rcases findKey_sound hT hkt (hkf (fun _ => False) w) hf hen with ⟨k1, _⟩ | ⟨j, y', e, k1, k2, k3, k4, k5, k6⟩
            · cases k1
            · simp only [Option.some.injEq, Prod.mk.injEq] at k1
              obtain ⟨rfl, rfl⟩ := k1
              have hci : c[i]? = some e := by simpa using k2
              have hset : ∀ o : Obj, (setObj b o).run G.P w = .ok () (w.putObj b o) := fun o => MapKept.run_setObj_map o hh
              refine ⟨_, _, _, ?_, hfz.upd' hb' (hshp _) (setMap_stays hfz (by simp [hb']) hm hh (c' := c.modify i fun e => { e with key := uk, val := ux }) (k' := kc)) ?_⟩
              · simp [Instr.mapUpdate, hu, Sem.run_bind, hobj, hck, k6, hci, k4, hst, hset]
              · refine .mp _ b (c.modify i fun e => { e with key := uk, val := ux }) kc hm (World.putObj_heap_same (Array.getElem?_eq_some_iff.1 hh).1) (by simp [hcl]) fun j z hj => ?_
                rw [List.getElem?_set] at hj
                split at hj
                · rename_i e1; subst e1
                  split at hj
                  · simp only [Option.some.injEq] at hj; subst hj
                    refine ⟨{ e with key := uk, val := ux }, by simp [Array.getElem?_modify, hci], hkf _ _, hyr.mono (fun _ x => x) fun b0 hb0 => hfixed b0 hb0⟩
                  · cases hj
                · rename_i e1
                  obtain ⟨m, q1, q2, q3⟩ := hen.2 j z hj
                  refine ⟨m, ?_, q2.mono (fun _ x => x) fun b0 hb0 => hfixed b0 hb0, q3.mono (fun _ x => x) fun b0 hb0 => hfixed b0 hb0⟩
                  rw [Array.getElem?_modify, if_neg e1]; simpa using q1
          · rename_i hf
            simp only [Option.some.injEq] at hs; subst hs
            rcases findKey_sound hT hkt (hkf (fun _ => False) w) hf hen with ⟨_, k2⟩ | ⟨j, y', e, k1, _⟩
            · have hset : ∀ o : Obj, (setObj b o).run G.P w = .ok () (w.putObj b o) := fun o => MapKept.run_setObj_map o hh
              refine ⟨_, _, _, ?_, hfz.upd' hb' (hshp _) (setMap_stays hfz (by simp [hb']) hm hh (c' := c.push { key := uk, val := ux, born := kc }) (k' := kc + 1)) ?_⟩
              · simp [Instr.mapUpdate, hu, Sem.run_bind, hobj, hck, k2, hset]
              · refine .mp _ b (c.push { key := uk, val := ux, born := kc }) (kc + 1) hm (World.putObj_heap_same (Array.getElem?_eq_some_iff.1 hh).1) (by simp [hcl]) fun j z hj => ?_
                rw [List.getElem?_append] at hj
                split at hj
                · rename_i hlt
                  obtain ⟨m, q1, q2, q3⟩ := hen.2 j z hj
                  refine ⟨m, ?_, q2.mono (fun _ x => x) fun b0 hb0 => hfixed b0 hb0, q3.mono (fun _ x => x) fun b0 hb0 => hfixed b0 hb0⟩
                  rw [Array.getElem?_push, if_neg (by omega)]; simpa using q1
                · rename_i hge
                  have hj0 : j = es.length := by
                    have := (List.getElem?_eq_some_iff.1 hj).1
                    simp at this; omega
                  subst hj0
                  simp only [Nat.sub_self, List.getElem?_cons_zero, Option.some.injEq] at hj; subst hj
                  exact ⟨_, by rw [Array.getElem?_push, if_pos hcl.symm], hkf _ _, hyr.mono (fun _ x => x) fun b0 hb0 => hfixed b0 hb0⟩
            · cases k1
          · cases hs
        · cases hs
      · cases hs
    · cases hs
  · cases hs
end
end Go.Proofs.Ytoafhoihigfllaa.E
