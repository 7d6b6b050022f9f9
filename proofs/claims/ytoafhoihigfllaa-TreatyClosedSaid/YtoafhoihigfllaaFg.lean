/-
  The engine, part 2f: regions that draw their order, gone through order by order. Conditions: 'mixedOrders'.
-/
import Derived.Test.YtoafhoihigfllaaFe
namespace Go.Proofs.Ytoafhoihigfllaa.E
open Go Go.RowKit
set_option linter.unusedVariables false
set_option linter.unusedSimpArgs false
def step1 (G : Pg) (keep : List Nat) (N : Nat) (ops : Array Oper) (σ : St) (o : Oper) : Option St :=
  match guardA ops.toList σ o with
  | some true => stepX G keep N σ o
  | some false => some (skipS N σ o.dst)
  | none => none
/-- All orders of a region lead to one state. -/
def allR (G : Pg) (keep : List Nat) (N : Nat) (ops : Array Oper) (σ' : St) : Nat → Array Bool → St → Prop
  | 0, listed, σ => Region.ready .any ops listed = [] ∧ σ = σ'
  | f + 1, listed, σ => (Region.ready .any ops listed = [] → σ = σ') ∧ ∀ i ∈ Region.ready .any ops listed, ∃ o τ, ops[i]? = some o ∧ step1 G keep N ops σ o = some τ ∧ allR G keep N ops σ' f (listed.setIfInBounds i true) τ
section
variable {G : Pg} {keep : List Nat} {N : Nat} {ops : Array Oper} {σ' : St}
def allL (P : Nat → Prop) : List Nat → Prop
  | [] => True
  | i :: r => P i ∧ allL P r
theorem allL_mem {P : Nat → Prop} : ∀ {l : List Nat}, allL P l → ∀ i ∈ l, P i
  | [], _, i, h => by cases h
  | j :: r, h, i, hi => by
    rcases List.mem_cons.mp hi with rfl | hi
    · exact h.1
    · exact allL_mem h.2 i hi
theorem allR_step {f : Nat} {listed : Array Bool} {σ : St} {l : List Nat} (hr : Region.ready .any ops listed = l) (hl : l ≠ []) (h : allL (fun i => ∃ o τ, ops[i]? = some o ∧ step1 G keep N ops σ o = some τ ∧ allR G keep N ops σ' f (listed.setIfInBounds i true) τ) l) : allR G keep N ops σ' (f + 1) listed σ :=
  ⟨fun e => absurd (hr.symm.trans e) hl, fun i hi => allL_mem h i (hr ▸ hi)⟩
theorem allR_one : ∀ {f : Nat} {listed : Array Bool} {σ σ1 σ2 : St}, allR G keep N ops σ1 f listed σ → allR G keep N ops σ2 f listed σ → σ1 = σ2
  | 0, _, _, _, _, h1, h2 => by rw [← h1.2, ← h2.2]
  | f + 1, listed, σ, σ1, σ2, h1, h2 => by
    cases hr : Region.ready .any ops listed with
    | nil => rw [← h1.1 hr, ← h2.1 hr]
    | cons i l =>
      obtain ⟨o, τ, e1, e2, e3⟩ := h1.2 i (by rw [hr]; exact List.mem_cons_self)
      obtain ⟨o', τ', g1, g2, g3⟩ := h2.2 i (by rw [hr]; exact List.mem_cons_self)
      rw [e1] at g1
      simp only [Option.some.injEq] at g1
      subst g1
      rw [e2] at g2
      simp only [Option.some.injEq] at g2
      subst g2
      exact allR_one e3 g3
theorem all_sound (hT : TOk G) (hC : CtxOk G) {Q : Exit → Act → World → Prop} {ro : Option Nat} {rm : Nat} : ∀ (fuel : Nat) (listed : Array Bool) {C : Base} {σ : St} {a : Act} {w : World} {μ : Mu} {Fz Fy : Nat → Prop}, YOk G C → (∀ M' a' w' μ' Fz' Fy', More C M' → Sim (C.withM M') σ' a' w' μ' Fz' Fy' → Q .normal a' w') →
    Sim C σ a w μ Fz Fy → allR G keep C.N ops σ' fuel listed σ → wpAnyIn (FR ro) rm G.P .any ops Q fuel listed a w
  | 0, listed, C, σ, a, w, μ, Fz, Fy, hY, hQ, h, hx => ⟨hx.1, hQ C.M _ _ _ _ _ (More.refl C) (hx.2 ▸ h)⟩
  | fuel + 1, listed, C, σ, a, w, μ, Fz, Fy, hY, hQ, h, hx => by
    refine ⟨fun hrd => hQ C.M _ _ _ _ _ (More.refl C) (hx.1 hrd ▸ h), fun i hi => ?_⟩
    obtain ⟨o, τ, ho, hs, hr⟩ := hx.2 i hi
    have key : ∀ {M1 : Nat → Prop} {a1 : Act} {w1 : World} {μ1 : Mu} {Fz1 Fy1 : Nat → Prop}, More C M1 → Sim (C.withM M1) τ a1 w1 μ1 Fz1 Fy1 → wpAnyIn (FR ro) rm G.P .any ops Q fuel (listed.setIfInBounds i true) a1 w1 :=
      fun {M1} _ _ _ _ _ hM h1' => all_sound hT hC fuel _ (hY.withM M1) (fun M' a' w' μ' Fz' Fy' hM' h' => hQ M' _ _ _ _ _ (hM.trans hM') h') h1' hr
    unfold wpOpIn
    simp only [ho]
    unfold step1 at hs
    split at hs
    · rename_i hg
      rw [if_pos (guardA_sound h hg)]
      exact stepX_sound hT hC hY h hs fun M' a' w' μ' Fz' Fy' hM h' => key hM h'
    · rename_i hg
      simp only [Option.some.injEq] at hs
      subst hs
      rw [if_neg (by simp [guardA_sound h hg])]
      exact ⟨fun _ _ => trivial, key (M1 := C.M) (More.refl C) (h.skip' o.dst)⟩
    · cases hs
end
open Classical in
/-- A drawer that goes through all orders where there is no plan. -/
noncomputable def drawC (T : List (Nat × Plan)) (G : Pg) (L : Live) (N : Nat) : Drawer := fun id ops σ =>
  match lk id T with
  | some _ => drawT T G L N id ops σ
  | none => if h : ∃ σ', allR G (kof L id).1 N ops.toArray σ' ops.length (Array.replicate ops.length false) σ then some (Classical.choose h) else none
theorem drawOkC {G : Pg} (hT : TOk G) (hC : CtxOk G) (hmix : G.P.follows .mixedOrders = true) (T : List (Nat × Plan)) (L : Live) (N : Nat) : DrawOk G N (drawC T G L N) := by
  intro C ro rm ops id σ σ' a w μ Fz Fy Q hCN hY hD h hQ
  unfold drawC at hD
  split at hD
  · exact drawOk hT hC hmix T L N C ro rm ops id σ σ' a w μ Fz Fy Q hCN hY hD h hQ
  · subst hCN
    split at hD
    · rename_i he
      simp only [Option.some.injEq] at hD
      have hs := Classical.choose_spec he
      rw [hD] at hs
      refine wpIn_region_any hmix ?_
      have hw : Stays C σ w { w with drawn := w.drawn + 1 } μ Fy := Stays.of_below h ⟨rfl, rfl, rfl, Nat.le_refl _, fun _ _ => rfl⟩
      simp only [Array.toArray_toList, Array.length_toList] at hs
      exact all_sound hT hC ops.size _ hY hQ (h.stays hw) hs
    · cases hD
theorem valid_of_evC {G : Pg} (hT : TOk G) (hC : CtxOk G) (hmix : G.P.follows .mixedOrders = true) {k : FuncId} {fn : Func} (hf : G.P.funcs[k]? = some fn) (T : List (Nat × Plan)) (L : Live)
    {args : List (Bool × FV)} {res : List TV} (hargs : args.length ≤ fn.ntmps ∧ fn.ntmps ≤ 90000)
    (h : ∃ c, fn.body = some c ∧ Ev (exec G L fn.ntmps (drawC T G L fn.ntmps) R c (initSt args)) (fun e σ => (e = .normal ∨ e = .ret) ∧ ∃ vs, slotsA G σ fn.results.toList = some vs ∧ retsA σ [] vs = some res)) (hyl : G.yl = none := by rfl) : Valid G.P k args res := by
  obtain ⟨c, hb, hx⟩ := h
  obtain ⟨e, σ, h1, h2, vs, h3, h4⟩ := hx.get
  exact valid_of_exec hT hC hyl hf hb (D := drawC T G L fn.ntmps) (drawOkC hT hC hmix T L fn.ntmps) R hargs h1 h2 h3 h4
section
variable {G : Pg} {L : Live} {N n id : Nat} {σ σ' : St} {Q : Ex → St → Prop} {ops : Array Oper}
theorem ev_drwC {T : List (Nat × Plan)} {pl : Plan} (h2 : lk id T = some pl)
    (h3 : planOk ops.toList pl = true) (h4 : ((dsts ops.toList pl.length).all fun d => decide (d < N)) = true) (h5 : finO (kof L id) (drawP G (kof L id).1 N ops.toList pl σ) = some σ') (h6 : Q .normal σ') :
    Ev (exec G L N (drawC T G L N) n (.region id ops true) σ) Q := by
  obtain ⟨τ, h5', rfl⟩ := finO_eq h5
  have e : drawC T G L N id ops.toList σ = some τ := by
    unfold drawC drawT
    rw [h2]
    simp only [h3, h4, Bool.and_self, if_true]
    exact h5'
  simp only [exec, e, if_true]
  unfold Ev
  exact h6
theorem ev_all {T : List (Nat × Plan)} (h2 : lk id T = none) (τ : St) (h5 : allR G (kof L id).1 N ops τ ops.size (Array.replicate ops.size false) σ) (h6 : Q .normal (fin (kof L id) τ)) :
    Ev (exec G L N (drawC T G L N) n (.region id ops true) σ) Q := by
  have e : drawC T G L N id ops.toList σ = some τ := by
    unfold drawC
    rw [h2]
    have hx : ∃ σ', allR G (kof L id).1 N ops.toList.toArray σ' ops.toList.length (Array.replicate ops.toList.length false) σ := ⟨τ, by simpa using h5⟩
    simp only [dif_pos hx]
    have hs := Classical.choose_spec hx
    simp only [Array.toArray_toList, Array.length_toList] at hs
    rw [Option.some.injEq]
    exact allR_one hs h5
  simp only [exec, e, if_true]
  unfold Ev
  exact h6
end
end Go.Proofs.Ytoafhoihigfllaa.E
