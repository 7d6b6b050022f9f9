/-
  The engine, part 2d: the law of the regions that draw their order, continued. Conditions: 'mixedOrders'; it is stated of any program and table of its types.
-/
import Derived.Test.YtoafhoihigfllaaFc
namespace Go.Proofs.Ytoafhoihigfllaa.E
open Go Go.RowKit
set_option linter.unusedVariables false
set_option linter.unusedSimpArgs false

def On (listed : Array Bool) (i : Nat) : Prop := listed.getD i false = true
def left (n : Nat) (listed : Array Bool) : Nat := ((List.range n).filter fun i => !listed.getD i true).length
theorem filter_less {p q : Nat → Bool} (hpq : ∀ x, q x = true → p x = true) {i : Nat} (hp : p i = true) (hq : q i = false) : ∀ {l : List Nat}, i ∈ l → (l.filter q).length < (l.filter p).length := by
  have hle : ∀ l : List Nat, (l.filter q).length ≤ (l.filter p).length := fun l => by
    induction l with
    | nil => simp
    | cons x r ih =>
      simp only [List.filter_cons]
      cases hqx : q x with
      | true => simp [hpq x hqx, ih]
      | false => cases p x <;> simp <;> omega
  intro l
  induction l with
  | nil => simp
  | cons x r ih =>
    intro h
    simp only [List.filter_cons]
    rcases List.mem_cons.1 h with e | h
    · subst e; have := hle r; simp [hp, hq]; omega
    · have := ih h
      cases hqx : q x with
      | true => simp [hpq x hqx, this]
      | false => cases p x <;> simp <;> omega
theorem on_set {listed : Array Bool} {n i j : Nat} (hs : listed.size = n) (hi : i < n) : On (listed.setIfInBounds i true) j ↔ j = i ∨ On listed j := by
  simp only [On, Array.getD_eq_getD_getElem?, Array.getElem?_setIfInBounds]
  by_cases e : i = j
  · subst e; simp [hs, hi]
  · have e' : ¬ j = i := fun h => e h.symm
    simp [e, e']
theorem left_set {n i : Nat} {listed : Array Bool} (hs : listed.size = n) (hi : i < n) (hu : ¬ On listed i) : left n (listed.setIfInBounds i true) < left n listed := by
  refine filter_less (i := i) (fun x hx => ?_) ?_ ?_ (List.mem_range.2 hi)
  · simp only [Bool.not_eq_true', Array.getD_eq_getD_getElem?, Array.getElem?_setIfInBounds] at hx ⊢
    split at hx
    · split at hx <;> simp at hx
    · exact hx
  · simp only [On, Array.getD_eq_getD_getElem?] at hu ⊢
    have : i < listed.size := by omega
    simp [this] at hu ⊢; exact hu
  · simp [Array.getD_eq_getD_getElem?, Array.getElem?_setIfInBounds, hs, hi]
theorem on_of_left {n : Nat} {listed : Array Bool} (hs : listed.size = n) (h : left n listed = 0) (i : Nat) (hi : i < n) : On listed i := by
  simp only [left, List.length_eq_zero_iff, List.filter_eq_nil_iff, List.mem_range] at h
  have := h i hi
  have hi' : i < listed.size := by omega
  simpa [On, Array.getD_eq_getD_getElem?, hi'] using this
theorem ready_mem {ops : Array Oper} {listed : Array Bool} (hs : listed.size = ops.size) {i : Nat} (h : i ∈ Region.ready .any ops listed) :
    i < ops.size ∧ ¬ On listed i ∧ ∃ o, ops[i]? = some o ∧ ∀ e ∈ o.after.toList, Region.binds .any e = true → On listed e.on := by
  simp only [Region.ready, List.mem_filter, List.mem_range, Bool.and_eq_true] at h
  obtain ⟨hi, hu, ha⟩ := h
  refine ⟨hi, ?_, ops[i], by simp [hi], fun e he hb => ?_⟩
  · have hi' : i < listed.size := by omega
    simpa [On, Array.getD_eq_getD_getElem?, hi'] using hu
  · simp only [Array.getElem?_eq_getElem hi, Option.map_some, Option.getD_some, Array.all_eq_true', Bool.or_eq_true] at ha
    have := ha e (by simpa using he)
    simpa [hb, On, Array.getD_eq_getD_getElem?] using this
theorem ready_least {ops : Array Oper} {listed : Array Bool} (hs : listed.size = ops.size) (hb : ∀ i o, ops[i]? = some o → ∀ e ∈ o.after.toList, Region.binds .any e = true → e.on < i) :
    ∀ i, i < ops.size → ¬ On listed i → ∃ j, j ∈ Region.ready .any ops listed := by
  intro i
  induction i using Nat.strongRecOn with
  | _ i ih =>
    intro hi hu
    by_cases h : ∀ j, j < i → On listed j
    · refine ⟨i, ?_⟩
      simp only [Region.ready, List.mem_filter, List.mem_range, Bool.and_eq_true]
      have hi' : i < listed.size := by omega
      refine ⟨hi, by simpa [On, Array.getD_eq_getD_getElem?, hi'] using hu, ?_⟩
      simp only [Array.getElem?_eq_getElem hi, Option.map_some, Option.getD_some, Array.all_eq_true', Bool.or_eq_true]
      intro e he
      cases hbd : Region.binds .any e with
      | false => exact .inl rfl
      | true => exact .inr (h e.on (hb i _ (Array.getElem?_eq_getElem hi) e (by simpa using he) hbd))
    · simp only [Classical.not_forall] at h
      obtain ⟨j, hj, hju⟩ := h
      exact ih j hj (by omega) hju

section
variable {C : Base} {G : Pg} {keep : List Nat} {ops : Array Oper} {pl : Plan} {σ0 : St} {outs : List (Option (Nat × V × Option Blk))}
/-- The state behind a set of operations that add. -/
structure Tog (ops : List Oper) (pl : Plan) (σ0 : St) (outs : List (Option (Nat × V × Option Blk))) (L : Nat → Prop) (τ : St) : Prop where
  base : ∀ k v, lk k σ0.env = some v → (∃ j, L j ∧ overAt ops pl j = true ∧ ∃ o, ops[j]? = some o ∧ o.dst = some k) ∨ lk k τ.env = some v
  bblk : ∀ s b, lk s σ0.blk = some b → lk s τ.blk = some b
  has : ∀ j d v ob, L j → outs[j]? = some (some (d, v, ob)) → lk d τ.env = some v ∧ ∀ b, ob = some b → lk d τ.blk = some b
  env : ∀ k u, lk k τ.env = some u → lk k σ0.env = some u ∨ ∃ j, L j ∧ ∃ ob, outs[j]? = some (some (k, u, ob))
  blk : ∀ s b, lk s τ.blk = some b → lk s σ0.blk = some b ∨ ∃ j, L j ∧ ∃ v, outs[j]? = some (some (s, v, some b))
  tr : τ.tr = σ0.tr

theorem PlanOk.lt {ops : List Oper} {pl : Plan} (hp : PlanOk ops pl (depTab ops [])) : ∀ i x, ((depTab ops []).getD i 0).testBit x = true → x < i := by
  intro i
  induction i using Nat.strongRecOn with
  | _ i ih =>
    intro x hx
    have hl := depTab_length ops []
    simp only [List.length_nil, Nat.zero_add] at hl
    have hi : i < ops.length := by
      rcases Nat.lt_or_ge i ops.length with h | h
      · exact h
      · rw [List.getD_eq_getElem?_getD, List.getElem?_eq_none (by omega)] at hx
        simp at hx
    have ho := List.getElem?_eq_getElem hi
    obtain ⟨e, he, hb, hor⟩ := hp.dep i _ ho x hx
    have hlt := hp.back i _ ho e he hb
    rcases hor with rfl | h
    · exact hlt
    · have := ih e.on hlt x h; omega
/-- The tail: its order is forced. -/
theorem tail_sound (hT : TOk G) (hC : CtxOk G) (hp : PlanOk ops.toList pl (depTab ops.toList [])) {Q : Exit → Act → World → Prop} {ro : Option Nat} {rm : Nat} {σ' : St}
    : ∀ (r : List Oper) (m fuel : Nat) (listed : Array Bool) {C : Base} {σ : St} {a : Act} {w : World} {μ : Mu} {Fz Fy : Nat → Prop}, YOk G C → (∀ M' a' w' μ' Fz' Fy', More C M' → Sim (C.withM M') σ' a' w' μ' Fz' Fy' → Q .normal a' w') →
    ops.toList.drop m = r → pl.length ≤ m → m ≤ ops.size → listed.size = ops.size → (∀ i, i < ops.size → (On listed i ↔ i < m)) → (∀ i, On listed i → ∀ x, ((depTab ops.toList []).getD i 0).testBit x = true → On listed x) → left ops.size listed ≤ fuel → Sim C σ a w μ Fz Fy →
    runOps G keep C.N ops.toList r σ = some σ' → wpAnyIn (FR ro) rm G.P .any ops Q fuel listed a w
  | [], m, fuel, listed, C, σ, a, w, μ, Fz, Fy, hY, hQ, hr, hm, hm2, hs, hl, hcl, hf, h, hx => by
    have hmn : ops.size ≤ m := by
      have := congrArg List.length hr; simp at this; omega
    simp only [runOps, Option.some.injEq] at hx
    subst hx
    have hno : Region.ready .any ops listed = [] := by
      cases hrd : Region.ready .any ops listed with
      | nil => rfl
      | cons i l =>
        obtain ⟨h1, h2, _⟩ := ready_mem hs (i := i) (by simp [hrd])
        exact absurd ((hl i h1).2 (by omega)) h2
    cases fuel with
    | zero => exact ⟨hno, hQ C.M _ _ _ _ _ (More.refl C) h⟩
    | succ fuel => exact ⟨fun _ => hQ C.M _ _ _ _ _ (More.refl C) h, fun i hi => by simp [hno] at hi⟩
  | o :: r, m, fuel, listed, C, σ, a, w, μ, Fz, Fy, hY, hQ, hr, hm, hm2, hs, hl, hcl, hf, h, hx => by
    have hmlt : m < ops.size := by
      have := congrArg List.length hr; simp at this; omega
    have hom : ops[m]? = some o := by
      have : (ops.toList.drop m)[0]? = some o := by rw [hr]; rfl
      simpa [List.getElem?_drop] using this
    have hr' : ops.toList.drop (m + 1) = r := by
      have : ops.toList.drop (m + 1) = (ops.toList.drop m).drop 1 := by rw [List.drop_drop]
      rw [this, hr]; rfl
    have hum : ¬ On listed m := fun e => by have := (hl m hmlt).1 e; omega
    cases fuel with
    | zero => exact absurd (on_of_left hs (by omega) m hmlt) hum
    | succ fuel =>
      refine ⟨fun hrd => ?_, fun i hi => ?_⟩
      · obtain ⟨j, hj⟩ := ready_least hs (fun i o ho => hp.back i o (by simpa using ho)) m hmlt hum
        rw [hrd] at hj; simp at hj
      · obtain ⟨h1, h2, oi, ho, hon⟩ := ready_mem hs hi
        have him : i = m := by
          by_cases e : i < m
          · exact absurd ((hl i h1).2 e) h2
          · by_cases e2 : i = m
            · exact e2
            · exfalso
              have hd := hp.tail i (by omega) (by simpa using h1) m (by omega)
              obtain ⟨e', he', hb, hor⟩ := hp.dep i oi (by simpa using ho) m hd
              have := hon e' he' hb
              rcases hor with h3 | h3
              · rw [← h3] at this; exact hum this
              · exact hum (hcl _ this m h3)
        subst him
        have hcl' : ∀ j, On (listed.setIfInBounds i true) j → ∀ x, ((depTab ops.toList []).getD j 0).testBit x = true → On (listed.setIfInBounds i true) x := fun j hj x hx => by
          rw [on_set hs h1] at hj ⊢
          rcases hj with rfl | hj
          · obtain ⟨e', he', hb, hor⟩ := hp.dep j oi (by simpa using ho) x hx
            have := hon e' he' hb
            rcases hor with rfl | h3
            · exact .inr this
            · exact .inr (hcl _ this x h3)
          · exact .inr (hcl j hj x hx)
        have hl' : ∀ j, j < ops.size → (On (listed.setIfInBounds i true) j ↔ j < i + 1) := fun j hj => by
          rw [on_set hs h1, hl j hj]; omega
        have hlf := left_set hs h1 h2
        have key : ∀ {M1 : Nat → Prop} {σ1 : St} {a1 : Act} {w1 : World} {μ1 : Mu} {Fz1 Fy1 : Nat → Prop}, More C M1 → Sim (C.withM M1) σ1 a1 w1 μ1 Fz1 Fy1 → runOps G keep C.N ops.toList r σ1 = some σ' → wpAnyIn (FR ro) rm G.P .any ops Q fuel (listed.setIfInBounds i true) a1 w1 :=
          fun {M1} _ _ _ _ _ _ hM h1' hx' => tail_sound hT hC hp r (i + 1) fuel _ (hY.withM M1) (fun M' a' w' μ' Fz' Fy' hM' h' => hQ M' _ _ _ _ _ (hM.trans hM') h') hr' (by omega) (by omega) (by simpa using hs) hl' hcl' (by omega) h1' hx'
        have hoi : oi = o := by rw [hom] at ho; simpa using ho.symm
        subst hoi
        unfold wpOpIn
        simp only [ho]
        simp only [runOps] at hx
        split at hx
        · rename_i hg
          split at hx
          · rename_i σ1 hst
            rw [if_pos (guardA_sound h hg)]
            exact stepX_sound hT hC hY h hst fun M' a' w' μ' Fz' Fy' hM h' => key hM h' hx
          · simp at hx
        · rename_i hg
          rw [if_neg (by simp [guardA_sound h hg])]
          exact ⟨fun _ _ => trivial, key (M1 := C.M) (More.refl C) (h.skip' oi.dst) hx⟩
        · simp at hx
/-- The operations that add, in whatever order. -/
theorem front_sound (hT : TOk G) (hC : CtxOk G) (hp : PlanOk ops.toList pl (depTab ops.toList [])) {Q : Exit → Act → World → Prop} {ro : Option Nat} {rm : Nat} {σ' : St}
    (hY : YOk G C) (hQ : ∀ M' a' w' μ' Fz' Fy', More C M' → Sim (C.withM M') σ' a' w' μ' Fz' Fy' → Q .normal a' w') (hN : ∀ (i : Nat) (o : Oper) (d : Nat), i < pl.length → ops[i]? = some o → o.dst = some d → d < C.N)
    (ho1 : outs.length = pl.length) (ho2 : runOps G keep C.N ops.toList (ops.toList.drop pl.length) (afterO σ0 outs) = some σ')
    (ho3 : ∀ (i : Nat) (e : List Nat × List Nat) (o : Oper) (out : Option (Nat × V × Option Blk)), pl[i]? = some e → ops[i]? = some o → outs[i]? = some out → StepFact G keep ops.toList (afterO σ0 (outs.take i)) o e out)
    (hn1 : ∀ (i : Nat) (o : Oper) (d : Nat), i < pl.length → ops[i]? = some o → o.dst = some d → overAt ops.toList pl i = false → lk d σ0.env = none)
    (hn2 : ∀ (i : Nat) (o : Oper) (d : Nat), i < pl.length → ops[i]? = some o → o.dst = some d → maker o.op = true → Fresh d σ0) :
    ∀ (fuel : Nat) (listed : Array Bool) {τ : St} {a : Act} {w : World} {μ : Mu} {Fz Fy : Nat → Prop}, listed.size = ops.size → (∀ i, On listed i → ∀ x, ((depTab ops.toList []).getD i 0).testBit x = true → On listed x) →
    (∀ i, pl.length ≤ i → i < ops.size → ¬ On listed i) → left ops.size listed ≤ fuel → Sim C τ a w μ Fz Fy → Tog ops.toList pl σ0 outs (fun i => i < pl.length ∧ On listed i) τ → wpAnyIn (FR ro) rm G.P .any ops Q fuel listed a w := by
  intro fuel
  have hpn : pl.length ≤ ops.size := by simpa using hp.len
  -- what is written anew is written
  have hover : ∀ (j : Nat) (o : Oper) (k : Nat), overAt ops.toList pl j = true → ops.toList[j]? = some o → o.dst = some k → j < pl.length ∧ ∃ v ob, outs[j]? = some (some (k, v, ob)) := fun j o k hov ho hk => by
    unfold overAt at hov
    rw [ho] at hov
    cases hpj : pl[j]? with
    | none => rw [hpj] at hov; simp at hov
    | some e =>
      rw [hpj] at hov
      simp only [over1, Bool.and_eq_true, Option.isNone_iff_eq_none] at hov
      have hjl : j < pl.length := (List.getElem?_eq_some_iff.1 hpj).1
      have hjo : j < outs.length := by omega
      have hst := ho3 j e o outs[j] hpj (by simpa using ho) (List.getElem?_eq_getElem hjo)
      refine ⟨hjl, ?_⟩
      rw [List.getElem?_eq_getElem hjo]
      generalize outs[j] = x at hst
      obtain ⟨d, hd, hrest⟩ := hst
      have hdk : d = k := by rw [hk] at hd; simpa using hd.symm
      match x, hrest with
      | none, hg => simp [guardA, hov.1.1] at hg
      | some (d', v, ob), hr =>
        simp only at hr
        exact ⟨v, ob, by rw [hr.1, hdk]⟩
  -- all that add are through: the tail
  have hend : ∀ (fuel : Nat) (listed : Array Bool) {τ : St} {a : Act} {w : World} {μ : Mu} {Fz Fy : Nat → Prop}, listed.size = ops.size → (∀ i, On listed i → ∀ x, ((depTab ops.toList []).getD i 0).testBit x = true → On listed x) →
      (∀ i, pl.length ≤ i → i < ops.size → ¬ On listed i) → left ops.size listed ≤ fuel → Sim C τ a w μ Fz Fy → Tog ops.toList pl σ0 outs (fun i => i < pl.length ∧ On listed i) τ → (∀ i, i < pl.length → On listed i) → wpAnyIn (FR ro) rm G.P .any ops Q fuel listed a w := by
    intro fuel listed τ a w μ Fz Fy hs hcl hno hf h ht hall
    refine tail_sound hT hC hp _ pl.length fuel listed hY hQ rfl (Nat.le_refl _) hpn hs (fun i hi => ⟨fun hon => ?_, fun hlt => hall i hlt⟩) hcl hf (h.sub (fun k v hk => ?_) (fun s b hb => ?_) (by rw [afterO_tr, ht.tr])) ho2
    · by_cases e : i < pl.length
      · exact e
      · exact absurd hon (hno i (by omega) hi)
    · rcases afterO_env' hk with ⟨h1, hno1⟩ | ⟨j, ob, hj⟩
      · rcases ht.base k v h1 with ⟨j, _, hov, o, hjo, hjd⟩ | h2
        · obtain ⟨_, v2, ob2, h3⟩ := hover j o k hov hjo hjd
          exact absurd h3 (hno1 j v2 ob2)
        · exact h2
      · have hjl : j < pl.length := by rw [← ho1]; exact (List.getElem?_eq_some_iff.1 hj).1
        exact (ht.has j k v ob ⟨hjl, hall j hjl⟩ hj).1
    · rcases afterO_blk hb with h1 | ⟨j, v, hj⟩
      · exact ht.bblk s b h1
      · have hjl : j < pl.length := by rw [← ho1]; exact (List.getElem?_eq_some_iff.1 hj).1
        exact (ht.has j s v (some b) ⟨hjl, hall j hjl⟩ hj).2 b rfl
  induction fuel with
  | zero =>
    intro listed τ a w μ Fz Fy hs hcl hno hf h ht
    exact hend 0 listed hs hcl hno hf h ht fun i hi => on_of_left hs (by omega) i (by omega)
  | succ fuel ih =>
    intro listed τ a w μ Fz Fy hs hcl hno hf h ht
    by_cases hall : ∀ i, i < pl.length → On listed i
    · exact hend (fuel + 1) listed hs hcl hno hf h ht hall
    simp only [Classical.not_forall] at hall
    obtain ⟨j0, hj0, hj0u⟩ := hall
    refine ⟨fun hrd => ?_, fun i hi => ?_⟩
    · obtain ⟨j, hj⟩ := ready_least hs (fun i o ho => hp.back i o (by simpa using ho)) j0 (by omega) hj0u
      rw [hrd] at hj; simp at hj
    · obtain ⟨h1, h2, oi, ho, hon⟩ := ready_mem hs hi
      have hdep : ∀ x, ((depTab ops.toList []).getD i 0).testBit x = true → On listed x := fun x hx => by
        obtain ⟨e', he', hb, hor⟩ := hp.dep i oi (by simpa using ho) x hx
        have := hon e' he' hb
        rcases hor with rfl | h3
        · exact this
        · exact hcl _ this x h3
      have hip : i < pl.length := by
        by_cases e : i < pl.length
        · exact e
        · exact absurd (hdep j0 (hp.tail i (by omega) (by simpa using h1) j0 (by omega))) hj0u
      have hcl' : ∀ j, On (listed.setIfInBounds i true) j → ∀ x, ((depTab ops.toList []).getD j 0).testBit x = true → On (listed.setIfInBounds i true) x := fun j hj x hx => by
        rw [on_set hs h1] at hj ⊢
        rcases hj with rfl | hj
        · exact .inr (hdep x hx)
        · exact .inr (hcl j hj x hx)
      have hno' : ∀ j, pl.length ≤ j → j < ops.size → ¬ On (listed.setIfInBounds i true) j := fun j hj hj2 => by
        rw [on_set hs h1]
        rintro (rfl | hx)
        · omega
        · exact hno j hj hj2 hx
      have hlf := left_set hs h1 h2
      have go : ∀ {τ' : St} {a1 : Act} {w1 : World} {μ1 : Mu} {Fz1 Fy1 : Nat → Prop}, Sim C τ' a1 w1 μ1 Fz1 Fy1 → Tog ops.toList pl σ0 outs (fun j => j < pl.length ∧ On (listed.setIfInBounds i true) j) τ' → wpAnyIn (FR ro) rm G.P .any ops Q fuel (listed.setIfInBounds i true) a1 w1 :=
        fun h' ht' => ih _ (by simpa using hs) hcl' hno' (by omega) h' ht'
      obtain ⟨d, hd⟩ := hp.dst i oi hip (by simpa using ho)
      have hiout : i < outs.length := by omega
      -- another operation that adds has another slot
      have hne : ∀ j v ob, j < pl.length → outs[j]? = some (some (d, v, ob)) → j = i := fun j v ob hj hjo => by
        have hjs : j < ops.size := by omega
        obtain ⟨d', hd', hrest⟩ := ho3 j pl[j] ops[j] _ (List.getElem?_eq_getElem hj) (Array.getElem?_eq_getElem hjs) hjo
        simp only at hrest
        obtain ⟨rfl, _⟩ := hrest
        exact hp.inj j i ops[j] oi hj hip (by simp [hjs]) (by simpa using ho) (hd'.trans hd.symm)
      have hdt : overAt ops.toList pl i = false → lk d τ.env = none := fun hov => by
        cases hk : lk d τ.env with
        | none => rfl
        | some u =>
          rcases ht.env d u hk with h3 | ⟨j, ⟨hj, hjon⟩, ob, hjo⟩
          · rw [hn1 i oi d hip ho hd hov] at h3; simp at h3
          · exact absurd (hne j u ob hj hjo ▸ hjon) h2
      have hoi := ho3 i pl[i] oi outs[i] (List.getElem?_eq_getElem hip) ho (List.getElem?_eq_getElem hiout)
      generalize hx : outs[i] = out at hoi
      have houti : outs[i]? = some out := by rw [List.getElem?_eq_getElem hiout, hx]
      obtain ⟨d', hd', hrest⟩ := hoi
      obtain rfl : d = d' := by rw [hd] at hd'; simpa using hd'
      -- what the operation may read is there
      have henv : ∀ k v, lk k (pk (afterO σ0 (outs.take i)).env pl[i].1) = some v → lk k τ.env = some v := fun k v hk => by
        obtain ⟨hk1, hk2⟩ := lk_pk hk
        rcases afterO_env' hk2 with ⟨h3, hno3⟩ | ⟨j, ob, hj⟩
        · rcases ht.base k v h3 with ⟨j, ⟨hj, hjon⟩, hov, o, hjo, hjd⟩ | h4
          · exfalso
            obtain ⟨_, v2, ob2, h5⟩ := hover j o k hov hjo hjd
            rcases hp.sees i j pl[i] o k (List.getElem?_eq_getElem hip) hj hjo hjd hk1 with h6 | ⟨_, h6 | h6⟩
            · have hji := hp.lt i j h6
              exact hno3 j v2 ob2 (by rw [List.getElem?_take, if_pos hji]; exact h5)
            · subst h6; exact h2 hjon
            · exact h2 (hcl j hjon i h6)
          · exact h4
        · have hji : j < i := by
            have := (List.getElem?_eq_some_iff.1 hj).1
            simp at this; omega
          have hjo : outs[j]? = some (some (k, v, ob)) := by rw [List.getElem?_take, if_pos hji] at hj; exact hj
          have hjs : j < ops.size := by omega
          have hjp : j < pl.length := by omega
          obtain ⟨d', hd', hrest'⟩ := ho3 j pl[j] ops[j] _ (List.getElem?_eq_getElem hjp) (Array.getElem?_eq_getElem hjs) hjo
          simp only at hrest'
          obtain ⟨rfl, _⟩ := hrest'
          rcases hp.sees i j pl[i] ops[j] k (List.getElem?_eq_getElem hip) hjp (by simp [hjs]) hd' hk1 with h6 | ⟨_, h6 | h6⟩
          · exact (ht.has j k v ob ⟨hjp, hdep j h6⟩ hjo).1
          · omega
          · have := hp.lt j i h6; omega
      have hmk : ∀ j (e : Oper) d1 v1 b1, j < pl.length → ops[j]? = some e → outs[j]? = some (some (d1, v1, some b1)) → e.dst = some d1 ∧ maker e.op = true := fun j e d1 v1 b1 hj he hjo => by
        obtain ⟨d', hd', hrest'⟩ := ho3 j pl[j] e _ (List.getElem?_eq_getElem hj) he hjo
        simp only at hrest'
        obtain ⟨rfl, _, ha, _⟩ := hrest'
        refine ⟨hd', ?_⟩
        cases hm : maker e.op with
        | true => rfl
        | false => exact absurd (addA_maker ha hm) (by simp)
      have hblk : ∀ s b, lk s (rmL pl[i].2 (afterO σ0 (outs.take i)).blk) = some b → lk s τ.blk = some b := fun s b hb => by
        rw [lk_rmL] at hb
        split at hb
        · simp at hb
        · rename_i hsn
          rcases afterO_blk hb with h3 | ⟨j, v, hj⟩
          · exact ht.bblk s b h3
          · have hji : j < i := by
              have := (List.getElem?_eq_some_iff.1 hj).1
              simp at this; omega
            have hjo : outs[j]? = some (some (s, v, some b)) := by rw [List.getElem?_take, if_pos hji] at hj; exact hj
            have hjs : j < ops.size := by omega
            have hjp : j < pl.length := by omega
            obtain ⟨m1, m2⟩ := hmk j ops[j] s v b hjp (Array.getElem?_eq_getElem hjs) hjo
            rcases hp.hides i j pl[i] ops[j] s (List.getElem?_eq_getElem hip) hjp (by simp [hjs]) m1 m2 with h4 | h4 | h4
            · exact (ht.has j s v (some b) ⟨hjp, hdep j h4⟩ hjo).2 b rfl
            · omega
            · exact absurd h4 hsn
      unfold wpOpIn
      simp only [ho]
      match out, hrest, houti with
      | none, hg, houti =>
        simp only at hg
        have hg' := guardA_mono (τ := τ) ⟨henv, fun s b hb => by simp [lk] at hb⟩ hg
        have hnov : overAt ops.toList pl i = false := by
          cases hov : overAt ops.toList pl i with
          | false => rfl
          | true =>
            obtain ⟨_, v2, ob2, h5⟩ := hover i oi d hov (by simpa using ho) hd
            rw [houti] at h5; simp at h5
        have hdt := hdt hnov
        rw [if_neg (by simp [guardA_sound h hg'])]
        refine ⟨fun _ _ => trivial, go (h.unset' oi.dst undef) ?_⟩
        rw [hd]
        have hrm : ∀ k, lk k (unsetS τ (some d)).env = lk k τ.env := fun k => by
          simp only [unsetS, lk_rm]
          split
          · rename_i e; rw [e, hdt]
          · rfl
        refine { tr := ht.tr, base := fun k v hk => (ht.base k v hk).imp (fun ⟨j, hj, r⟩ => ⟨j, ⟨hj.1, (on_set hs h1).2 (.inr hj.2)⟩, r⟩) (fun h => by rw [hrm]; exact h), bblk := ht.bblk, has := fun j d v ob hj hjo => ?_, env := fun k u hk => ?_, blk := fun s b hb => ?_ }
        · rw [on_set hs h1] at hj
          rcases hj.2 with rfl | hj2
          · rw [houti] at hjo; simp at hjo
          · rw [hrm]; exact ht.has j d v ob ⟨hj.1, hj2⟩ hjo
        · rw [hrm] at hk
          exact (ht.env k u hk).imp id fun ⟨j, hj, r⟩ => ⟨j, ⟨hj.1, (on_set hs h1).2 (.inr hj.2)⟩, r⟩
        · exact (ht.blk s b hb).imp id fun ⟨j, hj, r⟩ => ⟨j, ⟨hj.1, (on_set hs h1).2 (.inr hj.2)⟩, r⟩
      | some (d1, v, ob), hr, houti =>
        simp only at hr
        obtain ⟨rfl, hg, ha, hm1, hm2⟩ := hr
        have hg' := guardA_mono (τ := τ) ⟨henv, fun s b hb => by simp [lk] at hb⟩ hg
        rw [if_pos (guardA_sound h hg')]
        have hfresh : ob ≠ none → Fresh d1 τ := fun hob => by
          have hmi : maker oi.op = true := by
            cases hm : maker oi.op with
            | true => rfl
            | false => exact absurd (addA_maker ha hm) hob
          have hf0 := hn2 i oi d1 hip ho hd hmi
          -- what an operation ahead of it gave does not speak of it
          have hsp : ∀ j d2 v2 ob2, j < pl.length → On listed j → outs[j]? = some (some (d2, v2, ob2)) → ment 5 d1 v2 = false ∧ ∀ cells, ob2 = some (.box cells) → ∀ y ∈ cells, ment 5 d1 y = false := fun j d2 v2 ob2 hj hjon hjo => by
            have hjs : j < ops.size := by omega
            obtain ⟨d', hd', hrest'⟩ := ho3 j pl[j] ops[j] _ (List.getElem?_eq_getElem hj) (Array.getElem?_eq_getElem hjs) hjo
            simp only at hrest'
            obtain ⟨rfl, _, _, k1, k2⟩ := hrest'
            have hin : d1 ∈ pl[j].2 := by
              rcases hp.hides j i pl[j] oi d1 (List.getElem?_eq_getElem hj) hip (by simpa using ho) hd hmi with h4 | h4 | h4
              · exact absurd (hcl j hjon i h4) h2
              · exact absurd (h4 ▸ hjon) h2
              · exact h4
            refine ⟨?_, fun cells hc y hy => ?_⟩
            · simp only [mentAny, List.any_eq_false] at k1
              simpa using k1 d1 hin
            · subst hc
              simp only [blkMent, List.any_eq_false] at k2
              have := k2 y hy
              simp only [mentAny, Bool.not_eq_true, List.any_eq_false] at this
              simpa using this d1 hin
          refine { env := fun k u hk => ?_, box := fun s cells hb y hy => ?_, none := ?_ }
          · rcases ht.env k u hk with h3 | ⟨j, ⟨hj, hjon⟩, ob2, hjo⟩
            · exact hf0.env k u h3
            · exact (hsp j k u ob2 hj hjon hjo).1
          · rcases ht.blk s _ hb with h3 | ⟨j, ⟨hj, hjon⟩, v2, hjo⟩
            · exact hf0.box s cells h3 y hy
            · exact (hsp j s v2 _ hj hjon hjo).2 cells rfl y hy
          · cases hk : lk d1 τ.blk with
            | none => rfl
            | some b =>
              rcases ht.blk d1 b hk with h3 | ⟨j, ⟨hj, hjon⟩, v2, hjo⟩
              · rw [hf0.none] at h3; simp at h3
              · exact absurd (hne j v2 _ hj hjo ▸ hjon) h2
        obtain ⟨τ', hst, hadd⟩ := addA_step (keep := keep) (N := C.N) ⟨henv, hblk⟩ hd (hN i oi d1 hip ho hd) ha hfresh
        refine oper_in (stepA_nodefer hst) (stepA_sound hT hC h hst fun a' w' μ' Fz' Fy' h' => go h' ?_)
        refine { tr := hadd.tr.trans ht.tr, base := fun k u hk => ?_, bblk := fun s b hb => ?_, has := fun j d2 v2 ob2 hj hjo => ?_, env := fun k u hk => ?_, blk := fun s b hb => ?_ }
        · rcases ht.base k u hk with ⟨j, hj, r⟩ | h6
          · exact .inl ⟨j, ⟨hj.1, (on_set hs h1).2 (.inr hj.2)⟩, r⟩
          · by_cases e : k = d1
            · cases hov : overAt ops.toList pl i with
              | true => exact .inl ⟨i, ⟨hip, (on_set hs h1).2 (.inl rfl)⟩, hov, oi, by simpa using ho, by rw [e]; exact hd⟩
              | false =>
                rw [e, hn1 i oi d1 hip ho hd hov] at hk
                simp at hk
            · exact .inr (by rw [hadd.env, if_neg e]; exact h6)
        · rw [hadd.blk]
          split
          · rename_i e; subst e
            cases ob with
            | none => exact ht.bblk _ b hb
            | some b1 => exact absurd hb (by
                have := (hfresh (by simp)).none
                have h5 := ht.bblk _ b hb
                rw [this] at h5; simp at h5)
          · exact ht.bblk s b hb
        · rw [on_set hs h1] at hj
          by_cases e : j = i
          · subst e
            rw [houti] at hjo
            simp only [Option.some.injEq, Prod.mk.injEq] at hjo
            obtain ⟨rfl, rfl, rfl⟩ := hjo
            refine ⟨by rw [hadd.env, if_pos rfl], fun b hb => ?_⟩
            rw [hadd.blk, if_pos rfl, hb]; rfl
          · have hjon : On listed j := hj.2.resolve_left e
            have hd2 : d2 ≠ d1 := fun e2 => by subst e2; exact e (hne j v2 ob2 hj.1 hjo)
            obtain ⟨k1, k2⟩ := ht.has j d2 v2 ob2 ⟨hj.1, hjon⟩ hjo
            refine ⟨by rw [hadd.env, if_neg hd2]; exact k1, fun b hb => ?_⟩
            rw [hadd.blk, if_neg hd2]; exact k2 b hb
        · rw [hadd.env] at hk
          split at hk
          · rename_i e; subst e
            simp only [Option.some.injEq] at hk; subst hk
            exact .inr ⟨i, ⟨hip, (on_set hs h1).2 (.inl rfl)⟩, ob, houti⟩
          · exact (ht.env k u hk).imp id fun ⟨j, hj, r⟩ => ⟨j, ⟨hj.1, (on_set hs h1).2 (.inr hj.2)⟩, r⟩
        · rw [hadd.blk] at hb
          split at hb
          · rename_i e; subst e
            cases ob with
            | none => exact (ht.blk _ b (by simpa using hb)).imp id fun ⟨j, hj, r⟩ => ⟨j, ⟨hj.1, (on_set hs h1).2 (.inr hj.2)⟩, r⟩
            | some b1 =>
              simp only [Option.some_or, Option.some.injEq] at hb
              subst hb
              exact .inr ⟨i, ⟨hip, (on_set hs h1).2 (.inl rfl)⟩, v, houti⟩
          · exact (ht.blk s b hb).imp id fun ⟨j, hj, r⟩ => ⟨j, ⟨hj.1, (on_set hs h1).2 (.inr hj.2)⟩, r⟩

/-- How a region that draws its order is run, by a plan. -/
def drawP (G : Pg) (keep : List Nat) (N : Nat) (ops : List Oper) (pl : Plan) (σ : St) : Option St :=
  drawA G keep N ops pl ops (prep (dstsP ops pl) (makers ops pl.length) σ)
/-- The plans of a function's regions, by their numbers. -/
def drawT (T : List (Nat × Plan)) (G : Pg) (L : Live) (N : Nat) : Drawer := fun id ops σ =>
  match lk id T with
  | none => none
  | some pl => if (planOk ops pl && (dsts ops pl.length).all fun d => decide (d < N)) = true then drawP G (kof L id).1 N ops pl σ else none
theorem prep_env {ds ms : List Nat} {σ : St} {d : Nat} (h : d ∈ ds) : lk d (prep ds ms σ).env = none := by
  simp only [prep, St.kill, lk_map, lk_rmL, h, if_true, Option.map_none]
theorem prep_fresh {ds ms : List Nat} {σ : St} {d : Nat} (h : d ∈ ms) : Fresh d (prep ds ms σ) := by
  have hk : ∀ v, ment 5 d (killV ms v) = false := fun v => by
    unfold killV
    split
    · rfl
    · rename_i hn
      simp only [List.any_eq_true, not_exists, not_and] at hn
      simpa using hn d h
  refine { env := fun k u hu => ?_, box := fun s cells hb y hy => ?_, none := ?_ }
  · simp only [prep, St.kill, lk_map, Option.map_eq_some_iff] at hu
    obtain ⟨u', _, rfl⟩ := hu
    exact hk u'
  · simp only [prep, St.kill, lk_map, Option.map_eq_some_iff] at hb
    obtain ⟨b', _, hb'⟩ := hb
    cases b' with
    | box cs =>
      simp only [killB, Blk.box.injEq] at hb'
      subst hb'
      obtain ⟨y', _, rfl⟩ := List.mem_map.1 hy
      exact hk y'
    | arr => simp [killB] at hb'
    | mp => simp [killB] at hb'
  · simp only [prep, St.kill, lk_map, lk_rmL, h, if_true, Option.map_none]
theorem Sim.prep {σ : St} {a : Act} {w : World} {μ : Mu} {Fz Fy : Nat → Prop} (h : Sim C σ a w μ Fz Fy) (ds ms : List Nat) : Sim C (prep ds ms σ) a w μ Fz Fy := by
  unfold E.prep
  refine Sim.kill (h.sub (fun k v hk => ?_) fun s b hb => ?_) ms
  · simp only [lk_rmL] at hk
    split at hk
    · simp at hk
    · exact hk
  · simp only [lk_rmL] at hb
    split at hb
    · simp at hb
    · exact hb
theorem mem_dsts {ops : List Oper} {n i d : Nat} {o : Oper} (hi : i < n) (ho : ops[i]? = some o) (hd : o.dst = some d) : d ∈ dsts ops n :=
  List.mem_map.2 ⟨o, List.mem_of_getElem? (take_get hi ho), by simp [hd]⟩
theorem mem_makers {ops : List Oper} {n i d : Nat} {o : Oper} (hi : i < n) (ho : ops[i]? = some o) (hd : o.dst = some d) (hm : maker o.op = true) : d ∈ makers ops n :=
  List.mem_map.2 ⟨o, List.mem_filter.2 ⟨List.mem_of_getElem? (take_get hi ho), hm⟩, by simp [hd]⟩
/-- THE LAW OF THE REGIONS THAT DRAW THEIR ORDER. -/
theorem drawOk (hT : TOk G) (hC : CtxOk G) (hmix : G.P.follows .mixedOrders = true) (T : List (Nat × Plan)) (L : Live) (N : Nat) : DrawOk G N (drawT T G L N) := by
  intro C ro rm ops id σ σ' a w μ Fz Fy Q hCN hY hD h hQ
  subst hCN
  obtain ⟨pl, hpl, hN, hdr⟩ : ∃ pl, planOk ops.toList pl = true ∧ (∀ d ∈ dsts ops.toList pl.length, d < C.N) ∧ drawP G (kof L id).1 C.N ops.toList pl σ = some σ' := by
    unfold drawT at hD
    split at hD
    · simp at hD
    · rename_i pl _
      split at hD
      · rename_i hc
        simp only [Bool.and_eq_true, List.all_eq_true, decide_eq_true_eq] at hc
        exact ⟨pl, hc.1, hc.2, hD⟩
      · simp at hD
  have hp := planOk_sound hpl
  refine wpIn_region_any hmix ?_
  unfold drawP at hdr
  obtain ⟨outs, ho1, ho2, ho3⟩ := drawA_outs pl _ _ _ hdr
  have hw : Stays C σ w { w with drawn := w.drawn + 1 } μ Fy := Stays.of_below h ⟨rfl, rfl, rfl, Nat.le_refl _, fun _ _ => rfl⟩
  have h0 := (h.stays hw).prep (dstsP ops.toList pl) (makers ops.toList pl.length)
  have hoff : ∀ i, ¬ On (Array.replicate ops.size false) i := fun i => by
    simp only [On, Array.getD_eq_getD_getElem?, Array.getElem?_replicate]
    split <;> simp
  refine front_sound (keep := (kof L id).1) hT hC hp hY hQ (fun i o d hi ho hd => hN d (mem_dsts hi (by simpa using ho) hd)) ho1 ho2 (fun i e o out he ho hout => ho3 i e o out he (by simpa using ho) hout)
    (fun i o d hi ho hd hov => prep_env (by
      have hpi := List.getElem?_eq_getElem hi
      refine mem_dstsP (i := i) (o := o) (e := pl[i]) (by simpa using ho) hpi hd ?_
      unfold overAt at hov
      rw [show ops.toList[i]? = some o by simpa using ho, hpi] at hov
      exact hov)) (fun i o d hi ho hd hm => prep_fresh (mem_makers hi (by simpa using ho) hd hm))
    ops.size _ (by simp) (fun i hi => absurd hi (hoff i)) (fun i _ _ => hoff i) ?_ h0 ?_
  · exact Nat.le_trans (List.length_filter_le _ _) (by simp)
  · exact { tr := rfl, base := fun _ _ h => .inr h, bblk := fun _ _ h => h, has := fun j d v ob hj => absurd hj.2 (hoff j), env := fun k u hk => .inl hk, blk := fun s b hb => .inl hb }
theorem ex_draw {T : List (Nat × Plan)} {L : Live} {N n id : Nat} {ops : Array Oper} {σ σ' : St} {pl : Plan} (h2 : lk id T = some pl)
    (h3 : planOk ops.toList pl = true) (h4 : ((dsts ops.toList pl.length).all fun d => decide (d < N)) = true) (h5 : drawP G (kof L id).1 N ops.toList pl σ = some σ') :
    exec G L N (drawT T G L N) n (.region id ops true) σ = some (.normal, fin (kof L id) σ') := by
  have h6 : drawT T G L N id ops.toList σ = drawP G (kof L id).1 N ops.toList pl σ := by
    unfold drawT
    simp only [h2]
    rw [if_pos (by simp [h3, h4])]
  simp only [exec, if_true, h6, h5]
end
end Go.Proofs.Ytoafhoihigfllaa.E
