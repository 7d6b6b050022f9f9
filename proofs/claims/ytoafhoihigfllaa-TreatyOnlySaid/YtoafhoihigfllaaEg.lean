/-
  The engine, part g: the law of all operations that make no memory. Conditions: none; it is stated of any program and table of its types.
-/
import Derived.Test.YtoafhoihigfllaaEf
namespace Go.Proofs.Ytoafhoihigfllaa.E
open Go Go.RowKit
set_option linter.unusedVariables false

def partA (G : Pg) (ft : Nat) (cells : List V) (off : Nat) : Option V :=
  match lk ft G.tbl with
  | some ti => if ti.kind.agg then (if off + ti.size ≤ cells.length then some (mkAgg ((cells.drop off).take ti.size)) else none) else cells[off]?
  | none => none
def aggCells : V → Option (List V)
  | .fv ro (.agg cs) => some (cs.map (nrm ro))
  | .agg cs => some cs
  | _ => none
def nonnil (σ : St) : V → Option V
  | .fv ro (.pt c o) => some (.fv ro (.pt c o))
  | .fv ro (.rb f p q) => some (.fv ro (.rb f p q))
  | .ptr s o => if pres σ s then some (.ptr s o) else none
  | .pel s i j => if pres σ s then some (.pel s i j) else none
  | .fv ro (.fn (.func f) a b) => some (.fv ro (.fn (.func f) a b))
  | .fn (.func f) a b => some (.fn (.func f) a b)
  | _ => none
def unA (op : UnOp) : FV → Option FV
  | .bool b => match op with
    | .not => some (.bool (!b))
    | _ => none
  | .int k n => match op with
    | .neg => some (.int k (k.wrap (0 - n)))
    | _ => none
  | _ => none
def mkFn (f : Fn) (first captured : List V) : V :=
  match allF first, allF captured with
  | some (p, xs), some (q, ys) => nrm (p || q) (.fn f xs ys)
  | _, _ => .fn f first captured
def lenA (G : Pg) (σ : St) (t : Nat) (x : V) : Option Int :=
  match lk t G.tbl, x with
  | some ⟨_, _, _, .slice _⟩, .own s _ len => if pres σ s then some len else none
  | some ⟨_, _, _, .slice _⟩, .fv _ (.sl _ _ xs) => some xs.length
  | some ⟨_, _, _, .string⟩, .fv _ (.str s) => some s.size
  | _, _ => none
def popt (σ : St) : Option Operand → Option (Option V)
  | none => some none
  | some x => (opd σ x).map some
def popA (G : Pg) (σ : St) : Op → Option V
  | .move x => opd σ x
  | .assign x => opd σ x
  | .pick c x y => match opd σ c with
    | some (.fv _ (.bool t)) => if t then opd σ x else opd σ y
    | _ => none
  | .load t x => match opd σ x with
    | some p => loadA G σ t p
    | none => none
  | .nilCheck x => match opd σ x with
    | some p => nonnil σ p
    | none => none
  | .binOp op t x y _ => match opd σ x, opd σ y with
    | some (.fv _ u), some (.fv _ v) => (fbin G op t u v).map (.fv false)
    | _, _ => none
  | .unOp op _ x => match opd σ x with
    | some (.fv _ u) => (unA op u).map (.fv false)
    | _ => none
  | .makeFunc f first captured => match opds σ first.toList, opds σ captured.toList with
    | some xs, some ys => some (mkFn f xs ys)
    | _, _ => none
  | .slice t x lo hi mx => match opd σ x, popt σ lo, popt σ hi, popt σ mx with
    | some p, some l, some h, some m =>
      match (match l with | none => some 0 | some l => intN l), (match h with | none => some none | some h => (intN h).map some), (match m with | none => some none | some m => (intN m).map some) with
      | some l, some h, some m => if m = none ∨ h ≠ none then subsl G σ t p l h m else none
      | _, _, _ => none
    | _, _, _, _ => none
  | .fieldAddr t x i => match opd σ x with
    | some p => fieldA G σ t p i
    | none => none
  | .indexAddr t x i => match opd σ x, opd σ i with
    | some p, some n => match intN n with
      | some n => indexA G σ t p n
      | none => none
    | _, _ => none
  | .field t x i => match opd σ x, lk t G.tbl with
    | some p, some ⟨_, _, _, .struct fs⟩ => match aggCells p, fs[i]? with
      | some cs, some (off, ft) => partA G ft cs off
      | _, _ => none
    | _, _ => none
  | .index t x i => match opd σ x, opd σ i, lk t G.tbl with
    | some p, some n, some ⟨_, _, _, .array len e⟩ => match aggCells p, intN n, lk e G.tbl with
      | some cs, some n, some ti => if 0 ≤ n ∧ n < len then partA G e cs (n.toNat * ti.size) else none
      | _, _, _ => none
    | some (.fv _ (.str s)), some n, some ⟨_, _, _, .string⟩ => match intN n with
      | some n => if 0 ≤ n then (s[n.toNat]?).map fun b => .fv false (.int .u8 b.toNat) else none
      | none => none
    | _, _, _ => none
  | .extract x i => match opd σ x with
    | some (.tup cells) => cells[i]?
    | _ => none
  | .build t ps => match parts σ ps.toList with
    | some ps => buildA G σ t ps
    | none => none
  | .call c => match c.callee with
    | .builtin .len => match c.args.toList, c.argTypes.toList with
      | [x], [t] => match opd σ x with
        | some p => (lenA G σ t p).map fun n => .fv false (.int .i64 n)
        | none => none
      | _, _ => none
    | .builtin .min => match c.args.toList with
      | [x, y] => match opd σ x, opd σ y with
        | some (.fv _ (.int k m)), some (.fv _ (.int _ n)) => some (.fv false (.int k (if n < m then n else m)))
        | _, _ => none
      | _ => none
    | .builtin .max => match c.args.toList with
      | [x, y] => match opd σ x, opd σ y with
        | some (.fv _ (.int k m)), some (.fv _ (.int _ n)) => some (.fv false (.int k (if m < n then n else m)))
        | _, _ => none
      | _ => none
    | _ => none
  | _ => none

section
variable {C : Base} {σ : St} {a : Act} {w : World} {μ : Mu} {Fz Fy : Nat → Prop} {G : Pg}
theorem aggCells_sound {x : V} {cs : List V} (hc : aggCells x = some cs) {v : Value} (hv : RepV μ (shs σ) Fz Fy w x v) : ∃ vs, v = .agg vs ∧ Cells μ (shs σ) Fz Fy w cs vs := by
  unfold aggCells at hc
  split at hc
  · simp only [Option.some.injEq] at hc; subst hc
    cases hv with
    | fv _ _ _ hv =>
    cases hv with
    | agg _ vs hs hr =>
    refine ⟨vs, rfl, by simp [hs], fun j y hj => ?_⟩
    simp only [List.getElem?_map, Option.map_eq_some_iff] at hj
    obtain ⟨y', hy', rfl⟩ := hj
    exact rep_nrm (hr j y' hy')
  · simp only [Option.some.injEq] at hc; subst hc
    cases hv with
    | agg _ vs hs hr => exact ⟨vs, rfl, hs, hr⟩
  · simp at hc
theorem partA_sound (hT : TOk G) (h : Sim C σ a w μ Fz Fy) {ft off : Nat} {cells : List V} {r : V} (hp : partA G ft cells off = some r) {vs : Array Value} (hc : Cells μ (shs σ) Fz Fy w cells vs) :
    ∃ u, (part ft vs off).run G.P w = .ok u w ∧ RepV μ (shs σ) Fz Fy w r u := by
  unfold partA at hp
  split at hp
  · rename_i ti hti
    simp only [part, Sem.run_bind, run_isAgg' hT hti, Result.andThen_ok]
    split at hp
    · rename_i hag
      split at hp
      · rename_i hle
        simp only [Option.some.injEq] at hp; subst hp
        simp only [hag, if_true, Sem.run_bind, run_sizeOf' hT hti, Result.andThen_ok, Sem.run_pure]
        refine ⟨_, rfl, mkAgg_sound h.zy _ ?_ fun j y hj => ?_⟩
        · simp [hc.1]; omega
        · obtain ⟨h1, h2⟩ := drop_take_get hj
          have := hc.2 _ y h1
          have e : (vs.extract off (off + ti.size)).getD j undef = vs.getD (off + j) undef := by
            have : off + j < vs.size := by rw [hc.1]; exact (List.getElem?_eq_some_iff.1 h1).1
            simp [Array.getD_eq_getD_getElem?, show j < min (off + ti.size) vs.size - off from by omega, this]
          rw [e]; exact this
      · simp at hp
    · rename_i hag
      have hag' : ti.kind.agg = false := by simpa using hag
      have hlt : off < vs.size := by rw [hc.1]; exact (List.getElem?_eq_some_iff.1 hp).1
      have := hc.2 off r hp
      simp only [hag', Bool.false_eq_true, if_false]
      refine ⟨vs.getD off undef, ?_, this⟩
      simp [hlt, Array.getD_eq_getD_getElem?]
  · simp at hp
theorem mkFn_sound (h : Sim C σ a w μ Fz Fy) (f : Fn) {first captured : List V} {vf vc : Array Value} (hf : Cells μ (shs σ) Fz Fy w first vf) (hc : Cells μ (shs σ) Fz Fy w captured vc) :
    RepV μ (shs σ) Fz Fy w (mkFn f first captured) (.func f vf vc) := by
  unfold mkFn
  split
  · rename_i p xs q ys h1 h2
    refine rep_nrm (.fn f xs ys vf vc (by rw [hf.1, (allF_sound h1).1]) (by rw [hc.1, (allF_sound h2).1]) (fun j y hj => ?_) (fun j y hj => ?_))
    · exact roF_mono (Fz := Fz) (Fy := Fy) h.zy (fun e => by simp [e]) (allF_rep h.zy h1 _ hf.2 j y hj)
    · exact roF_mono (Fz := Fz) (Fy := Fy) h.zy (fun e => by simp [e]) (allF_rep h.zy h2 _ hc.2 j y hj)
  · exact .fn f _ _ vf vc hf.1 hc.1 hf.2 hc.2
theorem opds_cells (h : Sim C σ a w μ Fz Fy) {xs : Array Operand} {vs : List V} (hv : opds σ xs.toList = some vs) : Cells μ (shs σ) Fz Fy w vs (xs.map a.eval) := by
  obtain ⟨h1, h2⟩ := opds_sound h hv
  refine ⟨by simp [h1], fun j y hj => ?_⟩
  obtain ⟨x, hx, hr⟩ := h2 j y hj
  have hx' : xs[j]? = some x := by simpa using hx
  simpa [Array.getD_eq_getD_getElem?, hx'] using hr
theorem nonnil_sound {x y : V} (hn : nonnil σ x = some y) {v : Value} (hv : RepV μ (shs σ) Fz Fy w x v) : x = y ∧ ((∃ ad, v = .pointer (some ad)) ∨ ∃ f a b, v = .func (.func f) a b) := by
  unfold nonnil at hn
  split at hn
  · simp only [Option.some.injEq] at hn; subst hn
    cases hv with
    | fv _ _ _ hv => cases hv; exact ⟨rfl, .inl ⟨_, rfl⟩⟩
  · simp only [Option.some.injEq] at hn; subst hn
    cases hv with
    | fv _ _ _ hv => cases hv; exact ⟨rfl, .inl ⟨_, rfl⟩⟩
  · split at hn
    · rename_i hp
      simp only [Option.some.injEq] at hn; subst hn
      cases hv with
      | ptrx _ _ _ hx => exact (pres_sh hp hx).elim
      | ptr => exact ⟨rfl, .inl ⟨_, rfl⟩⟩
    · simp at hn
  · split at hn
    · rename_i hp
      simp only [Option.some.injEq] at hn; subst hn
      cases hv with
      | pelx _ _ _ _ hx => exact (pres_sh hp hx).elim
      | pel => exact ⟨rfl, .inl ⟨_, rfl⟩⟩
    · simp at hn
  · simp only [Option.some.injEq] at hn; subst hn
    cases hv with
    | fv _ _ _ hv => cases hv; exact ⟨rfl, .inr ⟨_, _, _, rfl⟩⟩
  · simp only [Option.some.injEq] at hn; subst hn
    cases hv with
    | fn => exact ⟨rfl, .inr ⟨_, _, _, rfl⟩⟩
  · simp at hn
theorem unA_sound {P : Program} {op : UnOp} {x y : FV} (hu : unA op x = some y) {Fz : Nat → Prop} {w : World} {v : Value} (hv : RepF Fz w x v) :
    ∃ r, (Op.unary op v).run P w = .ok r w ∧ ∀ (Fz : Nat → Prop) w', RepF Fz w' y r := by
  unfold unA at hu
  split at hu
  · split at hu
    · simp only [Option.some.injEq] at hu; subst hu
      cases hv
      exact ⟨_, rfl, fun _ _ => .bool _⟩
    · simp at hu
  · split at hu
    · simp only [Option.some.injEq] at hu; subst hu
      cases hv
      exact ⟨_, by simp [Op.unary, Op.intArith], fun _ _ => .int _ _⟩
    · simp at hu
  · simp at hu
theorem lenA_sound (hT : TOk G) {t : Nat} {x : V} {n : Int} (hl : lenA G σ t x = some n) {v : Value} (hv : RepV μ (shs σ) Fz Fy w x v) (ty : TypeId) :
    (Builtin.len_ #[t] ty #[v]).run G.P w = .ok (.int .i64 n) w := by
  unfold lenA at hl
  split at hl
  · rename_i s1 s2 s3 e s off len heq
    obtain ⟨d, hd, hk⟩ := (hT t _ heq).under
    simp only [KindIs] at hk; subst hk
    split at hl
    · rename_i hp
      simp only [Option.some.injEq] at hl; subst hl
      cases hv with
      | ownx _ _ _ _ hx => exact (pres_sh hp hx).elim
      | own => simp [Builtin.len_, underlying, hd, goInt]
    · simp at hl
  · rename_i s1 s2 s3 e ro clip sz xs heq
    obtain ⟨d, hd, hk⟩ := (hT t _ heq).under
    simp only [KindIs] at hk; subst hk
    simp only [Option.some.injEq] at hl; subst hl
    cases hv with
    | fv _ _ _ hv =>
    cases hv with
    | sl0 => simp [Builtin.len_, underlying, hd, goInt]
    | sl _ _ _ b o len cap us hlen => subst hlen; simp [Builtin.len_, underlying, hd, goInt]
  · rename_i s1 s2 s3 ro s heq
    obtain ⟨d, hd, hk⟩ := (hT t _ heq).under
    simp only [KindIs] at hk; subst hk
    simp only [Option.some.injEq] at hl; subst hl
    cases hv with
    | fv _ _ _ hv =>
    cases hv with
    | str => simp [Builtin.len_, underlying, hd, goInt]
  · simp at hl
theorem popt_sound (h : Sim C σ a w μ Fz Fy) {x : Option Operand} {v : Option V} (hx : popt σ x = some v) :
    (x = none ∧ v = none) ∨ ∃ y u, x = some y ∧ v = some u ∧ RepV μ (shs σ) Fz Fy w u (a.eval y) := by
  cases x with
  | none => simp [popt] at hx; exact .inl ⟨rfl, hx.symm⟩
  | some y =>
    simp only [popt, Option.map_eq_some_iff] at hx
    obtain ⟨u, hu, rfl⟩ := hx
    exact .inr ⟨y, u, rfl, rfl, opd_sound h hu⟩

/-- Every operation that makes no memory: the model's run gives what the state says. -/
theorem pop_sound (hT : TOk G) (h : Sim C σ a w μ Fz Fy) (o : Oper) {r : V} (hp : popA G σ o.op = some r) : ∃ u, (execOp a.eval o).run G.P w = .ok (.value u) w ∧ RepV μ (shs σ) Fz Fy w r u := by
  obtain ⟨dst, op, type, pos, after, guard⟩ := o
  simp only at hp
  unfold popA at hp
  split at hp
  · exact ⟨_, rfl, opd_sound h hp⟩
  · exact ⟨_, rfl, opd_sound h hp⟩
  · -- pick
    rename_i c x y
    split at hp
    · rename_i q t hc
      have hcv := opd_sound h hc
      have hcb : a.eval c = .bool t := by
        generalize a.eval c = vc at hcv ⊢
        cases hcv with
        | fv _ _ _ hv => cases hv; rfl
      simp only [execOp, hcb, asBool, Sem.run_bind, Sem.run_pure, Result.andThen_ok]
      cases t with
      | true => exact ⟨_, rfl, opd_sound h (by simpa using hp)⟩
      | false => exact ⟨_, rfl, opd_sound h (by simpa using hp)⟩
    · simp at hp
  · -- load
    split at hp
    · rename_i p hx
      obtain ⟨u, h1, h2⟩ := loadA_sound hT h hp (opd_sound h hx)
      exact ⟨u, by simp only [execOp, Sem.run_bind, h1, Result.andThen_ok, Sem.run_pure], h2⟩
    · simp at hp
  · -- nilCheck
    rename_i x
    split at hp
    · rename_i p hx
      have hv := opd_sound h hx
      obtain ⟨rfl, hn⟩ := nonnil_sound hp hv
      refine ⟨a.eval x, ?_, hv⟩
      rcases hn with ⟨ad, he⟩ | ⟨f, p, q, he⟩ <;> simp only [execOp, he, Sem.run_pure]
    · simp at hp
  · -- binOp
    rename_i op t x y yt
    split at hp
    · rename_i q u q' v hx hy
      simp only [Option.map_eq_some_iff] at hp
      obtain ⟨z, hz, rfl⟩ := hp
      have h1 := opd_sound h hx
      have h2 := opd_sound h hy
      cases h1 with
      | fv _ _ _ h1 =>
      cases h2 with
      | fv _ _ _ h2 =>
      obtain ⟨r, hr, hrep⟩ := fbin_sound hT hz h1 h2 x y
      exact ⟨r, by simp only [execOp, Sem.run_bind] at hr ⊢; rw [hr]; rfl, .fv _ _ _ (hrep _ _)⟩
    · simp at hp
  · -- unOp
    split at hp
    · rename_i q u hx
      simp only [Option.map_eq_some_iff] at hp
      obtain ⟨z, hz, rfl⟩ := hp
      have h1 := opd_sound h hx
      cases h1 with
      | fv _ _ _ h1 =>
      obtain ⟨r, hr, hrep⟩ := unA_sound (P := G.P) hz h1
      exact ⟨r, by simp only [execOp, Sem.run_bind, hr, Result.andThen_ok, Sem.run_pure], .fv _ _ _ (hrep _ _)⟩
    · simp at hp
  · -- makeFunc
    split at hp
    · rename_i f first captured xs ys h1 h2
      simp only [Option.some.injEq] at hp; subst hp
      exact ⟨_, by simp only [execOp, Instr.makeFunc, Sem.run_bind, Sem.run_pure, Result.andThen_ok], mkFn_sound h _ (opds_cells h h1) (opds_cells h h2)⟩
    · simp at hp
  · -- slice
    rename_i t x lo hi mx
    split at hp
    · rename_i p l hh m hx hl hhi hm
      have hv := opd_sound h hx
      split at hp
      · rename_i l' h' m' el eh em
        split at hp
        · rename_i hmh
          have a1 : lo.map a.eval = none ∧ l' = 0 ∨ ∃ k, lo.map a.eval = some (.int k l') := by
            rcases popt_sound h hl with ⟨rfl, rfl⟩ | ⟨y, u, rfl, rfl, hu⟩
            · simp only [Option.some.injEq] at el; exact .inl ⟨rfl, el.symm⟩
            · obtain ⟨k, hk⟩ := intN_sound el hu
              exact .inr ⟨k, by simp [hk]⟩
          have a2 : intOV h' (hi.map a.eval) := by
            rcases popt_sound h hhi with ⟨rfl, rfl⟩ | ⟨y, u, rfl, rfl, hu⟩
            · simp only [Option.some.injEq] at eh; subst eh; trivial
            · simp only [Option.map_eq_some_iff] at eh
              obtain ⟨n, hn, rfl⟩ := eh
              obtain ⟨k, hk⟩ := intN_sound hn hu
              exact ⟨k, hk⟩
          have a3 : intOV m' (mx.map a.eval) := by
            rcases popt_sound h hm with ⟨rfl, rfl⟩ | ⟨y, u, rfl, rfl, hu⟩
            · simp only [Option.some.injEq] at em; subst em; trivial
            · simp only [Option.map_eq_some_iff] at em
              obtain ⟨n, hn, rfl⟩ := em
              obtain ⟨k, hk⟩ := intN_sound hn hu
              exact ⟨k, hk⟩
          obtain ⟨u, h1, h2⟩ := subsl_sound hT h hp hv a1 a2 a3 hmh
          exact ⟨u, by simp only [execOp, Sem.run_bind, h1, Result.andThen_ok, Sem.run_pure], h2⟩
        · simp at hp
      · simp at hp
    · simp at hp
  · -- fieldAddr
    split at hp
    · rename_i p hx
      obtain ⟨u, h1, h2⟩ := fieldA_sound hT h hp (opd_sound h hx)
      exact ⟨u, by simp only [execOp, Sem.run_bind, h1, Result.andThen_ok, Sem.run_pure], h2⟩
    · simp at hp
  · -- indexAddr
    split at hp
    · rename_i p n hx hn
      split at hp
      · rename_i m hm
        obtain ⟨k, hk⟩ := intN_sound hm (opd_sound h hn)
        obtain ⟨u, h1, h2⟩ := indexA_sound hT h hp (opd_sound h hx) k
        exact ⟨u, by simp only [execOp, hk, Sem.run_bind, h1, Result.andThen_ok, Sem.run_pure], h2⟩
      · simp at hp
    · simp at hp
  · -- field
    rename_i t x i
    split at hp
    · rename_i p s1 s2 s3 fs hx heq
      split at hp
      · rename_i cs off ft hcs hf
        obtain ⟨d, hd, fields, rfl, hfs⟩ := (hT _ _ heq).under
        obtain ⟨vs, hvs, hc⟩ := aggCells_sound hcs (opd_sound h hx)
        obtain ⟨u, h1, h2⟩ := partA_sound hT h hp hc
        rw [← hfs, List.getElem?_map, Option.map_eq_some_iff] at hf
        obtain ⟨f, hf, he⟩ := hf
        simp only [Prod.mk.injEq] at he
        obtain ⟨rfl, rfl⟩ := he
        have hf' : fields[i]? = some f := by simpa using hf
        exact ⟨u, by simp only [execOp, Sem.run_bind, Instr.field, underlying, run_program, hd, Result.andThen_ok, Sem.run_pure, hf', hvs, asAgg, h1], h2⟩
      · simp at hp
    · simp at hp
  · -- index
    split at hp
    · rename_i p n s1 s2 s3 len e hx hn heq
      split at hp
      · rename_i cs m ti hcs hm hti
        split at hp
        · rename_i hb
          obtain ⟨d, hd, hk⟩ := (hT _ _ heq).under
          simp only [KindIs] at hk; subst hk
          obtain ⟨vs, hvs, hc⟩ := aggCells_sound hcs (opd_sound h hx)
          obtain ⟨k, hk⟩ := intN_sound hm (opd_sound h hn)
          obtain ⟨u, h1, h2⟩ := partA_sound hT h hp hc
          exact ⟨u, by simp only [execOp, Sem.run_bind, Instr.index, hk, asIntOf, underlying, run_program, hd, Result.andThen_ok, Sem.run_pure, hvs, if_pos hb, run_sizeOf' hT hti, h1], h2⟩
        · simp at hp
      · simp at hp
    · rename_i q s n s1 s2 s3 hx hn heq
      split at hp
      · rename_i m hm
        split at hp
        · rename_i h0
          simp only [Option.map_eq_some_iff] at hp
          obtain ⟨b, hb, rfl⟩ := hp
          obtain ⟨d, hd, hk⟩ := (hT _ _ heq).under
          simp only [KindIs] at hk; subst hk
          obtain ⟨k, hk⟩ := intN_sound hm (opd_sound h hn)
          have hv := opd_sound h hx
          cases hv with
          | fv _ _ v hv =>
          generalize hve : a.eval _ = v at hv
          cases hv with
          | str =>
          refine ⟨.int .u8 b.toNat, ?_, .fv _ _ _ (.int _ _)⟩
          simp only [execOp, Sem.run_bind, Instr.index, hk, asIntOf, underlying, run_program, hd, Result.andThen_ok, Sem.run_pure, hve, if_pos h0, hb]
        · simp at hp
      · simp at hp
    · simp at hp
  · -- extract
    rename_i x i
    split at hp
    · rename_i cells hx
      have hv := opd_sound h hx
      generalize hve : a.eval _ = v at hv
      cases hv with
      | tup _ vs hs hr =>
      have hlt : i < vs.size := by rw [hs]; exact (List.getElem?_eq_some_iff.1 hp).1
      have := hr _ r hp
      refine ⟨_, ?_, this⟩
      simp only [execOp, Sem.run_bind, hve, Instr.extract]
      simp [hlt, Array.getD_eq_getD_getElem?]
    · simp at hp
  · -- build
    rename_i t ps
    split at hp
    · rename_i ps' hps
      obtain ⟨k1, k2⟩ := parts_sound h hps
      obtain ⟨u, h1, h2⟩ := buildA_sound hT h hp (ps.map fun (i, x) => (i, a.eval x)) (by simp [k1]) (fun j x hj => by
        obtain ⟨y, hy, hr⟩ := k2 j x hj
        have hy' : ps[j]? = some (x.1, y) := by simpa using hy
        exact ⟨a.eval y, by simp [hy'], hr⟩)
      exact ⟨u, by simp only [execOp, Sem.run_bind, h1, Result.andThen_ok, Sem.run_pure], h2⟩
    · simp at hp
  · -- call
    rename_i c
    obtain ⟨callee, args, ats⟩ := c
    simp only at hp
    split at hp
    · split at hp
      · rename_i x t hargs hats
        split at hp
        · rename_i p hx
          simp only [Option.map_eq_some_iff] at hp
          obtain ⟨n, hn, rfl⟩ := hp
          have e1 : args = #[x] := Array.toList_inj.1 hargs
          have e2 : ats = #[t] := Array.toList_inj.1 hats
          subst e1; subst e2
          have := lenA_sound hT hn (opd_sound h hx) type
          exact ⟨_, by simp [execOp, resolve, invoke, builtin, this], .fv _ _ _ (.int _ _)⟩
        · simp at hp
      · simp at hp
    · split at hp
      · rename_i x y hargs
        split at hp
        · rename_i q k m q' k' n hx hy
          simp only [Option.some.injEq] at hp; subst hp
          have e1 : args = #[x, y] := Array.toList_inj.1 hargs
          subst e1
          have h1 := opd_sound h hx
          have h2 := opd_sound h hy
          generalize hve : a.eval x = v at h1
          generalize hvf : a.eval y = v' at h2
          cases h1 with
          | fv _ _ _ h1 =>
          cases h1
          cases h2 with
          | fv _ _ _ h2 =>
          cases h2
          exact ⟨_, by simp [execOp, resolve, invoke, builtin, Builtin.min_, Builtin.min2, hve, hvf], .fv _ _ _ (.int _ _)⟩
        · simp at hp
      · simp at hp
    · split at hp
      · rename_i x y hargs
        split at hp
        · rename_i q k m q' k' n hx hy
          simp only [Option.some.injEq] at hp; subst hp
          have e1 : args = #[x, y] := Array.toList_inj.1 hargs
          subst e1
          have h1 := opd_sound h hx
          have h2 := opd_sound h hy
          generalize hve : a.eval x = v at h1
          generalize hvf : a.eval y = v' at h2
          cases h1 with
          | fv _ _ _ h1 =>
          cases h1
          cases h2 with
          | fv _ _ _ h2 =>
          cases h2
          exact ⟨_, by simp [execOp, resolve, invoke, builtin, Builtin.max_, Builtin.max2, hve, hvf], .fv _ _ _ (.int _ _)⟩
        · simp at hp
      · simp at hp
    · simp at hp
  · simp at hp
end
end Go.Proofs.Ytoafhoihigfllaa.E
