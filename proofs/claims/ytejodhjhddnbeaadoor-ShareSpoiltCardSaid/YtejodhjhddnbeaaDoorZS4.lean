/-
  Clearings that are spoilt (ShareSpoilt): a clearing in which somebody pays a penny more, or is left out, is none; two of them after each other are one of both balances together, if these are balances, for any balances; a number chooses the payment. Conditions: none.
-/
import Derived.Test.YtejodhjhddnbeaaDoorCards
import Derived.Test.YtejodhjhddnbeaaDoorTie
import Derived.Test.YtejodhjhddnbeaaDoorZ24
import Derived.Test.YtejodhjhddnbeaaDoorZ25
import Derived.Test.YtejodhjhddnbeaaDoorZS3
import Derived.SevenTiedAt
set_option linter.unusedVariables false
set_option linter.unusedSimpArgs false
namespace Go.Proofs.YtejodhjhddnbeaaDoor.E
open Go Go.RowKit
namespace Spoilt
theorem spoilt_args {xs:List FV} (h:ArgsT Tryd.prog 6 [23,3] xs):Valid Tryd.prog 13 (xs.map fun x=>(false,x)) [.fv (.bool true)]:=by
 obtain ⟨fs,ys,h0,h1,h2⟩:=h
 obtain ⟨us,h6,h7⟩:=ArgsT_one h2
 obtain ⟨l,hl,hb⟩:=isL (n:=4) h1
 obtain ⟨m,hm⟩:=isI (n:=5) h7
 rw [h0,h6,argL hl,argI hm]
 exact v13 _ (fam_ctx KL) (at18 rfl) (at32 rfl) (at38 rfl) (at41 rfl) (at42 rfl) l m hb false false false
set_option maxRecDepth 100000 in
theorem spoilt_lifted (os:Os) (started:os.Started) (H:Type) (enc:TypeId×Value->H) :
  ReturnsInHanded {} Tryd.checked os 13 .any (fun w args=>(Rows.shareSpoiltSpec.pre enc Tryd.prog Tryd.f13 [] false w args/\laidMetH Tryd.prog laidP w)/\sizedMet enc Tryd.prog Tryd.f13 (OpenSpec.ofChange Rows.shareSpoiltSpec) false w args)
   (Rows.shareSpoiltSpec.post enc Tryd.prog Tryd.f13 false true false false):=by
 refine returnsInHanded_of_change_and (C:=Tryd.checked) (X:=fun w _=>laidMetH Tryd.prog laidP w) (fun _ _ _ hh h=>h.of_heap hh) ownP started (by kernel_rfl) Tryd.func13
  (ChangeSpec.witness_shaped (enc:=enc) (C:=Tryd.checked) (os:=os) (X:=fun w _=>laidMetH Tryd.prog laidP w) false (World.doorLaid Tryd.prog 2000 os) #[.slice none 0 0,.int .i64 0] 8 rfl (World.shaped_of_RefB (by kernel_rfl) (by kernel_rfl)) (by kernel_rfl) (by kernel_rfl) (by kernel_rfl) (door_met os _)) ?_
 intro W base args ds gs before hval hW _ hwt hL _
 refine law_contract (P:=Tryd.prog) (f:=Tryd.f13) (s:=Rows.shareSpoiltSpec) (n:=6) (tb:=4) (by kernel_rfl) ?_ ?_ rfl (by kernel_rfl) Tryd.underlying4 ?_ ?_ hval hW hwt (gl_of_laid hL)
 ·rw [Tryd.params13]; intro t ht; simp at ht; rcases ht with rfl | rfl<;>exact ⟨by kernel_rfl,of_decide_eq_true (by kernel_rfl)⟩
 ·rw [Tryd.params13]; intro t ht; simp at ht; rcases ht with rfl | rfl<;>kernel_rfl
 ·rw [Tryd.params13]
  intro ds hd
  match ds,hd with
  | [d0,d1],_=>rfl
 ·rw [Tryd.params13]
  exact fun xs h=>spoilt_args h
theorem spoilt_row:Rows.ShareSpoiltSaid :=
 OpenClaim.holds_of_wide 13 Tryd.f13 rfl rfl rfl rfl rfl rfl rfl ⟨rfl,rfl,rfl,rfl,rfl⟩ rfl rfl rfl rfl rfl (by kernel_rfl) Tryd.func13 (by kernel_rfl)
  (of_decide_eq_true (by kernel_rfl)) (by unfold Func.isWrapper; first | (rw [if_pos (by decide +kernel)]; kernel_rfl) | (rw [if_neg (by decide +kernel)]; exact ⟨rfl,rfl⟩))
  (fun os started H enc _=>spoilt_lifted os started H enc)
theorem spoilt_holds:Rows.ShareSpoiltCardSaid :=
 Claim7.holds_tied_plain_at .later [] [.funcs] true (true, "752db1fba4dc1baf50c9642d1c5ef5d5de6bfa672efa457c4487cae6568e6d83") false
  spoilt_row (fun _ h=>by cases h) (by kernel_rfl) (fun _ h=>by cases h) shareSpoilt_row_tie rfl ⟨rfl,rfl⟩ (by kernel_rfl) rfl
  (fun f fn hf hfn=>by
   obtain rfl : f = 13 := Option.some.inj ((show Tryd.prog.funcNamed "drifter/drifterlaw03.ShareSpoilt" = some 13 by kernel_rfl).symm.trans hf) |>.symm
   obtain rfl:fn=Tryd.f13:=(Option.some.inj (Tryd.func13.symm.trans hfn)).symm
   exact ⟨by kernel_rfl,fun j t ht=>by
    rw [Tryd.params13] at ht
    have hm:t∈([23,3]:List TypeId):=by
     have:=Array.mem_of_getElem? ht
     simpa using this
    have hall:∀ t∈([23,3]:List TypeId),Tryd.prog.wantsStandIn t=false:=by
     intro t ht
     simp only [List.mem_cons,List.not_mem_nil,or_false] at ht
     rcases ht with rfl | rfl<;>kernel_rfl
    exact hall t hm⟩)
  (by kernel_rfl)
#print axioms spoilt_holds
end Spoilt
end Go.Proofs.YtejodhjhddnbeaaDoor.E
