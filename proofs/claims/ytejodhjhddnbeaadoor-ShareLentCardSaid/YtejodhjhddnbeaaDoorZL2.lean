/-
  The law of the loan (ShareLent): all claims are together 8 times all nets, whatever is lent; none is below 0; what is lent and lent back at the same rent changes no claim, nor does what is lent at a rent of 8 eighths, for any voyage. Conditions: none.
-/
import Derived.Test.YtejodhjhddnbeaaDoorCards
import Derived.Test.YtejodhjhddnbeaaDoorTie
import Derived.Test.YtejodhjhddnbeaaDoorZ24
import Derived.Test.YtejodhjhddnbeaaDoorZL1
import Derived.Test.YtejodhjhddnbeaaDoorZ25
import Derived.SevenTiedAt
set_option linter.unusedVariables false
set_option linter.unusedSimpArgs false
namespace Go.Proofs.YtejodhjhddnbeaaDoor.E
open Go Go.RowKit
namespace Lent
theorem lent_args {xs : List FV} (h : ArgsT Tryd.prog 6 [32,56] xs) : Valid Tryd.prog 10 (xs.map fun x => (false,x)) [.fv (.bool true)] := by
  obtain ⟨fs,ys,h0,h1,h2⟩ := h
  obtain ⟨us,h6,h7⟩ := ArgsT_one h2
  obtain ⟨v,hf,hv⟩ := isVoy (n := 2) h1
  obtain ⟨a,b,c,d,hu⟩ := isFour (n := 4) h7
  rw [h0,h6,hf,hu]
  exact v10 _ (fam_ctx KL) (at17 rfl) (at18 rfl) (at19 rfl) (at32 rfl) (at33 rfl) (at34 rfl) v hv a b c d
set_option maxRecDepth 100000 in
theorem lent_lifted (os : Os) (started : os.Started) (H : Type) (enc : TypeId × Value → H) :
    ReturnsInHanded {} Tryd.checked os 10 .any (fun w args => (Rows.shareLentSpec.pre enc Tryd.prog Tryd.f10 [] false w args ∧ laidMetH Tryd.prog laidP w) ∧ sizedMet enc Tryd.prog Tryd.f10 (OpenSpec.ofChange Rows.shareLentSpec) false w args)
      (Rows.shareLentSpec.post enc Tryd.prog Tryd.f10 false true false false) := by
  refine returnsInHanded_of_change_and (C := Tryd.checked) (X := fun w _ => laidMetH Tryd.prog laidP w) (fun _ _ _ hh h => h.of_heap hh) ownP started (by kernel_rfl) Tryd.func10
    (ChangeSpec.witness_shaped (enc := enc) (C := Tryd.checked) (os := os) (X := fun w _ => laidMetH Tryd.prog laidP w) false (World.doorLaid Tryd.prog 2000 os) #[.agg #[.int .i64 0,.slice none 0 0,.int .i64 0,.int .i64 0,.int .i64 0,.slice none 0 0,.slice none 0 0,.slice none 0 0,.slice none 0 0],.agg #[.int .i64 0,.int .i64 0,.int .i64 0,.int .i64 0]] 8 rfl (World.shaped_of_RefB (by kernel_rfl) (by kernel_rfl)) (by kernel_rfl) (by kernel_rfl) (by kernel_rfl) (door_met os _)) ?_
  intro W base args ds gs before hval hW _ hwt hL _
  refine law_contract (P := Tryd.prog) (f := Tryd.f10) (s := Rows.shareLentSpec) (n := 6) (tb := 4) (by kernel_rfl) ?_ ?_ rfl (by kernel_rfl) Tryd.underlying4 ?_ ?_ hval hW hwt (gl_of_laid hL)
  · rw [Tryd.params10]; intro t ht; simp at ht; rcases ht with rfl | rfl <;> exact ⟨by kernel_rfl,of_decide_eq_true (by kernel_rfl)⟩
  · rw [Tryd.params10]; intro t ht; simp at ht; rcases ht with rfl | rfl <;> kernel_rfl
  · rw [Tryd.params10]
    intro ds hd
    match ds,hd with
    | [d0,d1],_ => rfl
  · rw [Tryd.params10]
    exact fun xs h => lent_args h
theorem lent_row : Rows.ShareLentSaid :=
  OpenClaim.holds_of_wide 10 Tryd.f10 rfl rfl rfl rfl rfl rfl rfl ⟨rfl,rfl,rfl,rfl,rfl⟩ rfl rfl rfl rfl rfl (by kernel_rfl) Tryd.func10 (by kernel_rfl)
    (of_decide_eq_true (by kernel_rfl)) (by unfold Func.isWrapper; first | (rw [if_pos (by decide +kernel)]; kernel_rfl) | (rw [if_neg (by decide +kernel)]; exact ⟨rfl,rfl⟩))
    (fun os started H enc _ => lent_lifted os started H enc)
theorem lent_holds : Rows.ShareLentCardSaid :=
  Claim7.holds_tied_plain_at .later [] [.funcs] true (true, "752db1fba4dc1baf50c9642d1c5ef5d5de6bfa672efa457c4487cae6568e6d83") false
    lent_row (fun _ h => by cases h) (by kernel_rfl) (fun _ h => by cases h) shareLent_row_tie rfl ⟨rfl,rfl⟩ (by kernel_rfl) rfl
    (fun f fn hf hfn => by
      obtain rfl : f = 10 := Option.some.inj ((show Tryd.prog.funcNamed "drifter/drifterlaw03.ShareLent" = some 10 by kernel_rfl).symm.trans hf) |>.symm
      obtain rfl : fn = Tryd.f10 := (Option.some.inj (Tryd.func10.symm.trans hfn)).symm
      exact ⟨by kernel_rfl,fun j t ht => by
        rw [Tryd.params10] at ht
        have hm : t ∈ ([32,56] : List TypeId) := by
          have := Array.mem_of_getElem? ht
          simpa using this
        have hall : ∀ t ∈ ([32,56] : List TypeId),Tryd.prog.wantsStandIn t = false := by
          intro t ht
          simp only [List.mem_cons,List.not_mem_nil,or_false] at ht
          rcases ht with rfl | rfl <;> kernel_rfl
        exact hall t hm⟩)
    (by kernel_rfl)
#print axioms lent_holds
end Lent
end Go.Proofs.YtejodhjhddnbeaaDoor.E
