/-
  The engine, part o: calls that change what is handed over to them. Conditions: none; it is stated of any program and table of its types.
-/
import Derived.Test.YtoafhoihigfllaaEm
namespace Go.Proofs.Ytoafhoihigfllaa.E
open Go Go.RowKit
set_option linter.unusedVariables false

def callB (G : Pg) (σ : St) (d : Nat) (f : V) (args : List V) : Option St :=
  match fnOf f, args with
  | some (k, [], []), .ptr s 0 :: rest => match lk s σ.blk with
    | some (.box cells) => match argsA (σ.drop s) cells, argsA (σ.drop s) rest with
      | some cs, some xs => match G.ctxB k cs xs with
        | some res => some { (addRes d (res.length == 1) 0 res (σ.drop s)).1 with env := put d (packV (addRes d (res.length == 1) 0 res (σ.drop s)).2) (addRes d (res.length == 1) 0 res (σ.drop s)).1.env }
        | none => none
      | _, _ => none
    | _ => none
  | _, _ => none
def srtA (G : Pg) (σ : St) (d : Nat) (f : V) (args : List V) : Option St :=
  match fnOf f, args with
  | some (k, [], []), [.own s 0 len] => match lk s σ.blk with
    | some (.arr sz xs) => if len = xs.length then match G.srt k sz xs with
        | some ys => some { σ with env := put d (.tup []) σ.env, blk := put s (.arr sz ys) σ.blk }
        | none => none
      else none
    | _ => none
  | _, _ => none
section
variable {C : Base} {σ : St} {a : Act} {w w' : World} {μ : Mu} {Fz Fy : Nat → Prop} {G : Pg}
theorem RepV.drop {x : V} {v : Value} (s : Nat) (h : RepV μ (shs σ) Fz Fy w x v) : RepV μ (shs (σ.drop s)) Fz Fy w x v :=
  h.mono (fun _ x => x) (fun _ x => x) (fun _ _ => rfl) (fun _ _ => rfl) (Keeps.refl w) (fun _ => False) (fun t _ => by
    by_cases e : t = s
    · left; simp [shs, St.drop, lk_rm, e]
    · right; simp [shs, St.drop, lk_rm, e]) (fun _ x => x) (fun _ x => x.elim)
/-- What changes one block of the frame's own keeps all else. -/
theorem stays_of_x (h : Sim C σ a w μ Fz Fy) {s b0 base : Nat} (hs : lk s σ.blk ≠ none) (hm : μ s = some (b0, base)) {F0 : Nat → Prop} (hb : BelowX { N := 0, B := w.heap.size, w0 := w, Fz0 := F0, X := fun b => b = b0 } w') : Stays C (σ.drop s) w w' μ Fy := by
  have hlive := h.live s hs b0 base hm
  have hother : ∀ r, r < w.heap.size → r ≠ b0 → w'.heap[r]? = w.heap[r]? := fun r hr hne => hb.block r hr hne
  have hltc : ∀ (r : Nat) (o : Obj), w.heap[r]? = some o → r < w.heap.size := fun r o hr => (Array.getElem?_eq_some_iff.1 hr).1
  have hk : Keeps w w' := fun r x e fr hx => by
    by_cases er : r = b0
    · exact hb.kept r x e fr er (hltc r _ hx) hx
    · exact ⟨x, (hother r (hltc r _ hx) er).trans hx, rfl⟩
  refine { keeps := hk, fixed := fun r hr => hother r (h.yl r hr) (fun e => hlive.2.2 (e ▸ hr)), own := fun t ht r base' hr => ?_, below := ?_, size := hb.size, rest := fun r hr => hother r (h.fm r hr).1 (fun e => (h.fm r hr).2.2 s hs base (e ▸ hm)) }
  · simp only [St.drop, lk_rm] at ht
    by_cases et : t = s
    · simp [et] at ht
    · simp only [et, if_false] at ht
      exact hother r (h.live t ht r base' hr).2.1 (h.inj t s ht hs et r base' b0 base hr hm)
  · have hB := h.below
    refine ⟨hb.os.trans hB.os, hb.tape.trans hB.tape, hb.output.trans hB.output, Nat.le_trans hB.size hb.size, fun k hk1 hx => ?_, fun k c e fr hx hk1 hc => ?_⟩
    · have hne : k ≠ b0 := fun e => by
        subst e
        rcases hlive.1 with h1 | h1
        · omega
        · exact hx h1
      exact (hother k (Nat.lt_of_lt_of_le hk1 h.big) hne).trans (hB.block k hk1 hx)
    · obtain ⟨c1, h1, h2⟩ := hB.kept k c e fr hx hk1 hc
      obtain ⟨c2, h3, h4⟩ := hk k c1 e fr h1
      exact ⟨c2, h3, h4.trans h2⟩
theorem Sim.upd' (h : Sim C σ a w μ Fz Fy) {s : Nat} {B0 B1 : Blk} (hb : lk s σ.blk = some B0) (hsh : shp B1 = shp B0) (hst : Stays C (σ.drop s) w w' μ Fy) (hnew : RepB μ (shs σ) Fz Fy w' s B1) : Sim C { σ with blk := put s B1 σ.blk } a w' μ Fz Fy := by
  have hp : ∀ t, lk t (put s B1 σ.blk) ≠ none → lk t σ.blk ≠ none := fun t ht => by
    by_cases e : t = s
    · subst e; simp [hb]
    · simpa [lk_put, e] using ht
  refine { defers := fun d hd => let ⟨D, e1, e2, e3, e4⟩ := h.defers d hd; ⟨D, e1, e2, e3, (hst.fixed D e2).trans e4⟩, dist := h.dist, small := h.small, y0 := h.y0, lp := h.lp, mm := h.mm, yd := h.yd_stays hst.keeps hst.below hst.size hst.rest, fm := fun r hr => ⟨Nat.lt_of_lt_of_le (h.fm r hr).1 hst.size, (h.fm r hr).2.1, fun t ht => (h.fm r hr).2.2 t (hp t ht)⟩, size := h.size, env := fun k v hk => ⟨(h.env k v hk).1, ?_⟩, blk := fun t x hx => ?_, live := fun t ht r base' hr => ?_, inj := fun t u ht hu => h.inj t u (hp t ht) (hp u hu), zy := h.zy, yl := fun r hr => Nat.lt_of_lt_of_le (h.yl r hr) hst.size, z0 := h.z0, below := hst.below, big := Nat.le_trans h.big hst.size }
  · rw [shs_put hb hsh]
    exact (h.env k v hk).2.mono (fun _ x => x) (fun _ x => x) (fun b x => hst.fixed b (h.zy b x)) hst.fixed hst.keeps (fun _ => False) (fun _ _ => .inr ⟨rfl, rfl⟩) (fun _ x => x) (fun _ x => x.elim)
  · rw [shs_put hb hsh]
    by_cases et : t = s
    · subst et
      simp only [lk_put_same, Option.some.injEq] at hx
      subst hx; exact hnew
    · simp only [lk_put, et, if_false] at hx
      exact (h.blk t x hx).mono (fun _ x => x) (fun _ x => x) (fun b x => hst.fixed b (h.zy b x)) hst.fixed hst.keeps (fun _ => False) (fun _ _ => .inr ⟨rfl, rfl⟩) (fun _ x => x) rfl
        (hst.own t (by simp [St.drop, lk_rm, et, hx])) (fun _ x => x.elim)
  · obtain ⟨k1, k2, k3⟩ := h.live t (hp t ht) r base' hr
    exact ⟨k1, Nat.lt_of_lt_of_le k2 hst.size, k3⟩
theorem run_enter {P : Program} {k : FuncId} (he : Enters P k) {o : Oper} {fo : Operand} {ao : Array Operand} {ats : Array TypeId} (ho : o.op = .call ⟨.value fo, ao, ats⟩) {vf vc : Array Value} (hve : a.eval fo = .func (.func k) vf vc) :
    (execOp a.eval o).run P w = .ok (.enter k (vf ++ ao.map a.eval ++ vc)) w := by
  obtain ⟨fn, hfn1, hfn2, hfn3⟩ := he
  unfold execOp
  simp only [ho, resolve, Deferred.ofValue, hve, Sem.run_bind, Sem.run_pure, Result.andThen_ok, invoke, callFunc, run_program, hfn1]
  simp [hfn2, hfn3]
theorem callB_sound (hT : TOk G) (hC : CtxOk G) (h : Sim C σ a w μ Fz Fy) {d : Nat} (hd : d < C.N) {f : V} {args : List V} {σ' : St} (hs : callB G σ d f args = some σ') {o : Oper} {fo : Operand} {ao : Array Operand} {ats : Array TypeId}
    (ho : o.op = .call ⟨.value fo, ao, ats⟩) (hdst : o.dst = some d) (hf : RepV μ (shs σ) Fz Fy w f (a.eval fo)) (ha : Cells μ (shs σ) Fz Fy w args (ao.map a.eval)) {K : Act → World → Prop} {Q : Exit → Act → World → Prop}
    (hK : ∀ a' w' μ' Fz' Fy', Sim C σ' a' w' μ' Fz' Fy' → K a' w') : o.wp G.P a w K Q := by
  unfold callB at hs
  split at hs
  · rename_i k s rest hfn
    split at hs
    · rename_i cells hbox
      split at hs
      · rename_i cs xs hcs hxs
        split at hs
        · rename_i res hres
          simp only [Option.some.injEq] at hs
          obtain ⟨hval, hent⟩ := hC.b k cs xs res hres
          obtain ⟨vf, vc, hve, hcf, hcc⟩ := fnOf_sound hfn hf
          have e1 : vf = #[] := Array.eq_empty_of_size_eq_zero (by have := hcf.1; simpa using this)
          have e2 : vc = #[] := Array.eq_empty_of_size_eq_zero (by have := hcc.1; simpa using this)
          subst e1; subst e2
          have hsne : lk s σ.blk ≠ none := by simp [hbox]
          -- the box
          have hB := h.blk s _ hbox
          cases hB with
          | box _ b0 c e hm hh hc hr =>
          have hlive := h.live s hsne b0 0 hm
          have hd' := h.drop s
          obtain ⟨us, hus⟩ : ∃ us, (ao.map a.eval).toList = us := ⟨_, rfl⟩
          have hsz := ha.1
          have hlen : us.length = rest.length + 1 := by rw [← hus]; simpa using hsz
          match us, hus, hlen with
          | u0 :: us', hus, hlen =>
          have hul : us'.length = rest.length := by simp only [List.length_cons] at hlen; omega
          have hget : ∀ j, (ao.map a.eval).getD j undef = (u0 :: us').getD j undef := fun j => by
            rw [← hus]; simp [Array.getD_eq_getD_getElem?, List.getD_eq_getElem?_getD]
          have hu0 : u0 = .pointer (some ⟨b0, 0, none⟩) := by
            have := ha.2 0 _ rfl
            rw [hget] at this
            simp only [List.getD_cons_zero] at this
            cases this with
            | ptrx _ _ _ hx => exact (hsne (by simpa [shs] using hx)).elim
            | ptr _ _ b base hm' =>
              rw [hm] at hm'
              simp only [Option.some.injEq, Prod.mk.injEq] at hm'
              obtain ⟨rfl, rfl⟩ := hm'
              rfl
          have hall2 : ∀ b, AllOf Fy (σ.drop s) μ b → b < w.heap.size := by
            rintro b (hb | ⟨t, hp, base, hm'⟩)
            · exact h.yl b hb
            · exact (hd'.live t hp b base hm').2.1
          have hnb0 : ¬ AllOf Fy (σ.drop s) μ b0 := by
            rintro (hb | ⟨t, hp, base, hm'⟩)
            · exact hlive.2.2 hb
            · have hp' : lk t σ.blk ≠ none ∧ t ≠ s := by
                simp only [St.drop, lk_rm] at hp
                by_cases et : t = s
                · simp [et] at hp
                · simp only [et, if_false] at hp; exact ⟨hp, et⟩
              exact h.inj t s hp'.1 hsne hp'.2 b0 base b0 0 hm' hm rfl
          obtain ⟨x1, x2⟩ := argsA_sound hd' (us := us') hxs (by omega) (fun j y hj => by
            have := ha.2 (j + 1) y (by simpa using hj)
            rw [hget] at this
            have hjl : j < us'.length := by have := (List.getElem?_eq_some_iff.1 hj).1; omega
            exact ⟨us'[j], List.getElem?_eq_getElem hjl, by simpa [List.getD_eq_getElem?_getD, hjl] using this.drop s⟩)
          obtain ⟨y1, y2⟩ := argsA_sound hd' (us := c.toList) hcs (by simpa using hc) (fun j y hj => by
            have := hr j y hj
            have hjl : j < c.size := by rw [hc]; exact (List.getElem?_eq_some_iff.1 hj).1
            exact ⟨c[j], by simp [hjl], by simpa [Array.getD_eq_getD_getElem?, hjl] using this.drop s⟩)
          have hcall := hval w Fz (AllOf Fy (σ.drop s) μ) b0 c e us' (fun b hb => .inl (h.zy b hb)) hall2 hnb0 hh (by rw [hc, y1]) (fun j p hj => by
            obtain ⟨u, hu, hru⟩ := y2 j p hj
            have : c.getD j undef = u := by
              have hjl : j < c.size := by have := (List.getElem?_eq_some_iff.1 hu).1; simpa using this
              simp only [Array.getElem?_toList, Array.getElem?_eq_getElem hjl, Option.some.injEq] at hu
              simp [Array.getD_eq_getD_getElem?, hjl, hu]
            rw [this]; exact hru) (by omega) x2
          have hargs : #[] ++ ao.map a.eval ++ #[] = (u0 :: us').toArray := by
            apply Array.toList_inj.1; simp [← hus]
          have hrun := run_enter (w := w) hent ho hve
          rw [hargs] at hrun
          unfold Oper.wp
          rw [hrun, Oper.upon_enter, hu0]
          refine hcall.mono ?_
          rintro ex w' ⟨v, us, m, rfl, hbelow, hR⟩
          simp only
          obtain ⟨μ', Fz', Fy', hS⟩ := after_call hd' (X := fun b => b = b0) (fun b hb => by
            subst hb
            refine ⟨hlive.1, hlive.2.1, ⟨hlive.2.2, fun hM => (h.fm _ hM).2.2 s hsne _ hm⟩, fun t ht base hm' => ?_⟩
            exact hnb0 (.inr ⟨t, ht, base, hm'⟩)) (stays_of_x h hsne hm hbelow) hd hR
          subst hs
          rw [hdst]
          exact hK _ _ _ _ _ hS
        · simp at hs
      · simp at hs
    · simp at hs
  · simp at hs
theorem srtA_sound (hT : TOk G) (hC : CtxOk G) (h : Sim C σ a w μ Fz Fy) {d : Nat} (hd : d < C.N) {f : V} {args : List V} {σ' : St} (hs : srtA G σ d f args = some σ') {o : Oper} {fo : Operand} {ao : Array Operand} {ats : Array TypeId}
    (ho : o.op = .call ⟨.value fo, ao, ats⟩) (hdst : o.dst = some d) (hf : RepV μ (shs σ) Fz Fy w f (a.eval fo)) (ha : Cells μ (shs σ) Fz Fy w args (ao.map a.eval)) {K : Act → World → Prop} {Q : Exit → Act → World → Prop}
    (hK : ∀ a' w' μ' Fz' Fy', Sim C σ' a' w' μ' Fz' Fy' → K a' w') : o.wp G.P a w K Q := by
  unfold srtA at hs
  split at hs
  · rename_i k s len hfn
    split at hs
    · rename_i sz xs harr
      split at hs
      · rename_i hlen
        split at hs
        · rename_i ys hys
          simp only [Option.some.injEq] at hs
          obtain ⟨hval, hent⟩ := hC.s k sz xs ys hys
          obtain ⟨vf, vc, hve, hcf, hcc⟩ := fnOf_sound hfn hf
          have e1 : vf = #[] := Array.eq_empty_of_size_eq_zero (by have := hcf.1; simpa using this)
          have e2 : vc = #[] := Array.eq_empty_of_size_eq_zero (by have := hcc.1; simpa using this)
          subst e1; subst e2
          have hsne : lk s σ.blk ≠ none := by simp [harr]
          have hsz : ao.size = 1 := by have := ha.1; simpa using this
          have hargs : #[] ++ ao.map a.eval ++ #[] = #[(ao.map a.eval).getD 0 undef] := by
            apply Array.ext
            · simp [hsz]
            · intro i h1 h2
              have : i = 0 := by simp at h2; omega
              subst this
              simp [Array.getD_eq_getD_getElem?, hsz]
          have h0 := ha.2 0 _ rfl
          have hrun := run_enter (w := w) hent ho hve
          rw [hargs] at hrun
          generalize (ao.map a.eval).getD 0 undef = u at h0 hrun
          have hput : ∀ (w' : World), Sim C { σ with blk := put s (.arr sz ys) σ.blk } a w' μ Fz Fy → Sim C σ' (a.put (some d) (.tuple #[])) w' μ Fz Fy := fun w' hS => by
            subst hs
            exact hS.set d hd (.tup []) _ (.tup [] #[] rfl (by simp))
          have hshp : shp (.arr sz ys) = shp (.arr sz xs) := by simp [shp, hval.len]
          cases h0 with
          | ownx _ _ _ _ hx => exact (hsne (by simpa [shs] using hx)).elim
          | own _ _ _ ad cap sz' n' hsh hn hcap hm =>
          simp only [shs, harr, Option.map_some, shp, Option.some.injEq, Prod.mk.injEq] at hsh
          obtain ⟨rfl, rfl⟩ := hsh
          subst hlen
          unfold Oper.wp
          by_cases hnil : xs = []
          · subst hnil
            have hynil : ys = [] := List.length_eq_zero_iff.1 hval.len
            subst hynil
            rw [show a.eval = a.eval from rfl]
            have hcall := hval.nil rfl w ad cap
            rw [hrun, Oper.upon_enter]
            refine hcall.mono ?_
            rintro ex w' ⟨rfl, hbelow⟩
            simp only
            rw [hdst]
            refine hK _ _ _ _ _ (hput w' (Sim.upd' h harr hshp ?_ (.nil _)))
            have hst := Stays.of_below h hbelow
            exact { keeps := hst.keeps, fixed := hst.fixed, own := fun t ht => hst.own t (by
              simp only [St.drop, lk_rm] at ht
              by_cases et : t = s
              · simp [et] at ht
              · simpa [et] using ht), below := hst.below, size := hst.size, rest := hst.rest }
          · have hpos : 0 < xs.length := List.length_pos_iff.2 hnil
            have hB := h.blk s _ harr
            cases hB with
            | nil => exact absurd rfl hnil
            | arr _ _ b0 base c e hmb hh hc hcs hr =>
            have hlive := h.live s hsne b0 base hmb
            rcases hm with hm | ⟨b1, base1, hm1, had, hroom⟩
            · omega
            · rw [hmb] at hm1
              simp only [Option.some.injEq, Prod.mk.injEq] at hm1
              obtain ⟨rfl, rfl⟩ := hm1
              simp only [Nat.zero_mul, Nat.add_zero, Nat.zero_add] at had hroom
              subst had
              obtain ⟨c1, e1', hh1, hroom⟩ := hroom
              rw [hh] at hh1
              simp only [Option.some.injEq, Obj.cells.injEq] at hh1
              obtain ⟨rfl, rfl, _⟩ := hh1
              have hcall := hval.run hnil w Fz Fy b0 base c e cap h.zy h.yl hlive.2.2 hh hcap hroom hr
              rw [hrun, Oper.upon_enter]
              refine hcall.mono ?_
              rintro ex w' ⟨rfl, hbelow, c', hh', hcs', hr'⟩
              simp only
              rw [hdst]
              refine hK _ _ _ _ _ (hput w' (Sim.upd' h harr hshp (stays_of_x h hsne hmb hbelow) ?_))
              exact .arr sz ys b0 base c' e hmb hh' (by rw [hval.len, hcs']; exact hc) hval.ok hr'
        · simp at hs
      · simp at hs
    · simp at hs
  · simp at hs
end
end Go.Proofs.Ytoafhoihigfllaa.E
