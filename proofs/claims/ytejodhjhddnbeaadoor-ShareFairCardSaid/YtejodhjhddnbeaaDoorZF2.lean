/-
  The theorem of the penny (ShareFair): of a sum that is divided nothing is left over; each gets less than one penny more or less than its exact share; who has a greater stake gets no less; a penny more to divide gives nobody more than a penny more, and nobody two less, for any sum and stakes. Conditions: none.
-/
import Derived.Test.YtejodhjhddnbeaaDoorCards
import Derived.Test.YtejodhjhddnbeaaDoorTie
import Derived.Test.YtejodhjhddnbeaaDoorZ24
import Derived.Test.YtejodhjhddnbeaaDoorZ25
import Derived.Test.YtejodhjhddnbeaaDoorZF1
import Derived.SevenTiedAt
set_option linter.unusedVariables false
set_option linter.unusedSimpArgs false
namespace Go.Proofs.YtejodhjhddnbeaaDoor.E
open Go Go.RowKit
namespace Fair
noncomputable def F30 : Fm where
  k := 30
  α := { x : Int × (List Int) × (List Int) × Bool × Bool × Bool × Bool × Bool // (match x with | (s,l,w,r0,r1,r2,c1,c2) => (FairP s l w)) }
  f := fun ⟨(s,l,w,r0,r1,r2,c1,c2),_⟩ => [(r0,.int .i64 s),(r1,.sl c1 1 (ints l)),(r2,.sl c2 1 (ints w))]
  g := fun ⟨(s,l,w,r0,r1,r2,c1,c2),_⟩ => [.fv (.bool true)]
  inj := fun ⟨(s,l,w,r0,r1,r2,c1,c2),_⟩ ⟨(s',l',w',r0',r1',r2',c1',c2'),_⟩ hh => by rfl
  ok := fun ⟨(s,l,w,r0,r1,r2,c1,c2),h⟩ => v30 _ (fam_ctx KL) (at34 rfl) s l w h r0 r1 r2 c1 c2
  en := enters_of Tryd.func30 (by kernel_rfl)
theorem at30 {L : List Fm} (h : L.find? (fun G => G.k == 30) = some F30) : H30 (famCtx L) := fun s l w r0 r1 r2 c1 c2 h => fam_at (F := F30) ‹_› ⟨(s,l,w,r0,r1,r2,c1,c2),h⟩ rfl rfl
noncomputable def KP : List Fm := F30 :: KL
theorem fair_args {xs : List FV} (h : ArgsT Tryd.prog 6 [3,22] xs) : Valid Tryd.prog 6 (xs.map fun x => (false,x)) [.fv (.bool true)] := by
  obtain ⟨fs,ys,h0,h1,h2⟩ := h
  obtain ⟨us,h6,h7⟩ := ArgsT_one h2
  obtain ⟨m,hm⟩ := isI (n := 5) h1
  obtain ⟨l,hl,hb⟩ := isStks (n := 3) h7
  rw [h0,h6,argI hm,argStks hl]
  exact v6 _ (fam_ctx KP) (at15 rfl) (at18 rfl) (at28 rfl) (at29 rfl) (at30 rfl) (at31 rfl) m l hb false false false
set_option maxRecDepth 100000 in
theorem fair_lifted (os : Os) (started : os.Started) (H : Type) (enc : TypeId × Value → H) :
    ReturnsInHanded {} Tryd.checked os 6 .any (fun w args => (Rows.shareFairSpec.pre enc Tryd.prog Tryd.f6 [] false w args ∧ laidMetH Tryd.prog laidP w) ∧ sizedMet enc Tryd.prog Tryd.f6 (OpenSpec.ofChange Rows.shareFairSpec) false w args)
      (Rows.shareFairSpec.post enc Tryd.prog Tryd.f6 false true false false) := by
  refine returnsInHanded_of_change_and (C := Tryd.checked) (X := fun w _ => laidMetH Tryd.prog laidP w) (fun _ _ _ hh h => h.of_heap hh) ownP started (by kernel_rfl) Tryd.func6
    (ChangeSpec.witness_shaped (enc := enc) (C := Tryd.checked) (os := os) (X := fun w _ => laidMetH Tryd.prog laidP w) false (World.doorLaid Tryd.prog 2000 os) #[.int .i64 0,.slice none 0 0] 8 rfl (World.shaped_of_RefB (by kernel_rfl) (by kernel_rfl)) (by kernel_rfl) (by kernel_rfl) (by kernel_rfl) (door_met os _)) ?_
  intro W base args ds gs before hval hW _ hwt hL _
  refine law_contract (P := Tryd.prog) (f := Tryd.f6) (s := Rows.shareFairSpec) (n := 6) (tb := 4) (by kernel_rfl) ?_ ?_ rfl (by kernel_rfl) Tryd.underlying4 ?_ ?_ hval hW hwt (gl_of_laid hL)
  · rw [Tryd.params6]; intro t ht; simp at ht; rcases ht with rfl | rfl <;> exact ⟨by kernel_rfl,of_decide_eq_true (by kernel_rfl)⟩
  · rw [Tryd.params6]; intro t ht; simp at ht; rcases ht with rfl | rfl <;> kernel_rfl
  · rw [Tryd.params6]
    intro ds hd
    match ds,hd with
    | [d0,d1],_ => rfl
  · rw [Tryd.params6]
    exact fun xs h => fair_args h
theorem fair_row : Rows.ShareFairSaid :=
  OpenClaim.holds_of_wide 6 Tryd.f6 rfl rfl rfl rfl rfl rfl rfl ⟨rfl,rfl,rfl,rfl,rfl⟩ rfl rfl rfl rfl rfl (by kernel_rfl) Tryd.func6 (by kernel_rfl)
    (of_decide_eq_true (by kernel_rfl)) (by unfold Func.isWrapper; first | (rw [if_pos (by decide +kernel)]; kernel_rfl) | (rw [if_neg (by decide +kernel)]; exact ⟨rfl,rfl⟩))
    (fun os started H enc _ => fair_lifted os started H enc)
theorem fair_holds : Rows.ShareFairCardSaid :=
  Claim7.holds_tied_plain_at .later [] [.funcs] true (true, "752db1fba4dc1baf50c9642d1c5ef5d5de6bfa672efa457c4487cae6568e6d83") false
    fair_row (fun _ h => by cases h) (by kernel_rfl) (fun _ h => by cases h) shareFair_row_tie rfl ⟨rfl,rfl⟩ (by kernel_rfl) rfl
    (fun f fn hf hfn => by
      obtain rfl : f = 6 := Option.some.inj ((show Tryd.prog.funcNamed "drifter/drifterlaw03.ShareFair" = some 6 by kernel_rfl).symm.trans hf) |>.symm
      obtain rfl : fn = Tryd.f6 := (Option.some.inj (Tryd.func6.symm.trans hfn)).symm
      exact ⟨by kernel_rfl,fun j t ht => by
        rw [Tryd.params6] at ht
        have hm : t ∈ ([3,22] : List TypeId) := by
          have := Array.mem_of_getElem? ht
          simpa using this
        have hall : ∀ t ∈ ([3,22] : List TypeId),Tryd.prog.wantsStandIn t = false := by
          intro t ht
          simp only [List.mem_cons,List.not_mem_nil,or_false] at ht
          rcases ht with rfl | rfl <;> kernel_rfl
        exact hall t hm⟩)
    (by kernel_rfl)
#print axioms fair_holds
end Fair
end Go.Proofs.YtejodhjhddnbeaaDoor.E
