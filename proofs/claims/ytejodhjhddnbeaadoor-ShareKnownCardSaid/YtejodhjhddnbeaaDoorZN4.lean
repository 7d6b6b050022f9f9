/-
  What is said of single sums, voyages and balances (ShareKnown), a closed statement. Conditions: none.
-/
import Derived.Test.YtejodhjhddnbeaaDoorCards
import Derived.Test.YtejodhjhddnbeaaDoorTie
import Derived.Test.YtejodhjhddnbeaaDoorZ24
import Derived.Test.YtejodhjhddnbeaaDoorZ25
import Derived.Test.YtejodhjhddnbeaaDoorZN3
import Derived.SevenTiedAt
set_option linter.unusedVariables false
set_option linter.unusedSimpArgs false
namespace Go.Proofs.YtejodhjhddnbeaaDoor.E
open Go Go.RowKit
namespace Known
theorem known_args {xs:List FV} (h:ArgsT Tryd.prog 6 [] xs):Valid Tryd.prog 14 (xs.map fun x=>(false,x)) [.fv (.bool true)]:=by
 have h:xs=[]:=h
 subst h
 exact v14
set_option maxRecDepth 100000 in
theorem known_lifted (os:Os) (started:os.Started) (H:Type) (enc:TypeId×Value->H) :
  ReturnsInHanded {} Tryd.checked os 14 .any (fun w args=>(Rows.shareKnownSpec.pre enc Tryd.prog Tryd.f14 [] false w args/\laidMetH Tryd.prog laidP w)/\sizedMet enc Tryd.prog Tryd.f14 (OpenSpec.ofChange Rows.shareKnownSpec) false w args)
   (Rows.shareKnownSpec.post enc Tryd.prog Tryd.f14 false true false false):=by
 refine returnsInHanded_of_change_and (C:=Tryd.checked) (X:=fun w _=>laidMetH Tryd.prog laidP w) (fun _ _ _ hh h=>h.of_heap hh) ownP started (by kernel_rfl) Tryd.func14
  (ChangeSpec.witness_shaped (enc:=enc) (C:=Tryd.checked) (os:=os) (X:=fun w _=>laidMetH Tryd.prog laidP w) false (World.doorLaid Tryd.prog 2000 os) #[] 8 rfl (World.shaped_of_RefB (by kernel_rfl) (by kernel_rfl)) (by kernel_rfl) (by kernel_rfl) (by kernel_rfl) (door_met os _)) ?_
 intro W base args ds gs before hval hW _ hwt hL _
 refine law_contract (P:=Tryd.prog) (f:=Tryd.f14) (s:=Rows.shareKnownSpec) (n:=6) (tb:=4) (by kernel_rfl) ?_ ?_ rfl (by kernel_rfl) Tryd.underlying4 ?_ ?_ hval hW hwt (gl_of_laid hL)
 ·rw [Tryd.params14]; intro t ht; simp at ht
 ·rw [Tryd.params14]; intro t ht; simp at ht
 ·rw [Tryd.params14]
  intro ds hd
  match ds,hd with
  | [],_=>rfl
 ·rw [Tryd.params14]
  exact fun xs h=>known_args h
theorem known_row:Rows.ShareKnownSaid :=
 OpenClaim.holds_of_wide 14 Tryd.f14 rfl rfl rfl rfl rfl rfl rfl ⟨rfl,rfl,rfl,rfl,rfl⟩ rfl rfl rfl rfl rfl (by kernel_rfl) Tryd.func14 (by kernel_rfl)
  (of_decide_eq_true (by kernel_rfl)) (by unfold Func.isWrapper; first | (rw [if_pos (by decide +kernel)]; kernel_rfl) | (rw [if_neg (by decide +kernel)]; exact ⟨rfl,rfl⟩))
  (fun os started H enc _=>known_lifted os started H enc)
theorem known_holds:Rows.ShareKnownCardSaid :=
 Claim7.holds_tied_plain_at .later [] [.funcs] true (true, "752db1fba4dc1baf50c9642d1c5ef5d5de6bfa672efa457c4487cae6568e6d83") false
  known_row (fun _ h=>by cases h) (by kernel_rfl) (fun _ h=>by cases h) shareKnown_row_tie rfl ⟨rfl,rfl⟩ (by kernel_rfl) rfl
  (fun f fn hf hfn=>by
   obtain rfl : f = 14 := Option.some.inj ((show Tryd.prog.funcNamed "drifter/drifterlaw03.ShareKnown" = some 14 by kernel_rfl).symm.trans hf) |>.symm
   obtain rfl:fn=Tryd.f14:=(Option.some.inj (Tryd.func14.symm.trans hfn)).symm
   exact ⟨by kernel_rfl,fun j t ht=>by
    rw [Tryd.params14] at ht
    simp at ht⟩)
  (by kernel_rfl)
#print axioms known_holds
end Known
end Go.Proofs.YtejodhjhddnbeaaDoor.E
