/-
  Stakes turned (ShareTurned): in whatever order stakes are told, each name gets the same; if all weights are so many times as great, too, for any sum and stakes; numbers choose the order, and how many times. Conditions: none.
-/
import Derived.Test.YtejodhjhddnbeaaDoorCards
import Derived.Test.YtejodhjhddnbeaaDoorTie
import Derived.Test.YtejodhjhddnbeaaDoorZ24
import Derived.Test.YtejodhjhddnbeaaDoorZ25
import Derived.Test.YtejodhjhddnbeaaDoorZT2
import Derived.SevenTiedAt
set_option linter.unusedVariables false
set_option linter.unusedSimpArgs false
namespace Go.Proofs.YtejodhjhddnbeaaDoor.E
open Go Go.RowKit
namespace Turned
theorem isTwo {n:Nat} {fs:List FV} (h:IsT Tryd.prog (n+2) 46 fs):∃ a b:Int,argFV Tryd.prog 46 fs = .agg [.int .i64 a,.int .i64 b]:=by
 rw [argFV_struct (by kernel_rfl)]
 obtain ⟨a,b,e⟩:=IsT_two Tryd.underlying46 Tryd.underlying3 h
 exact ⟨a,b,by rw [e]⟩
theorem turned_args {xs:List FV} (h:ArgsT Tryd.prog 6 [3,22,46] xs):Valid Tryd.prog 7 (xs.map fun x=>(false,x)) [.fv (.bool true)]:=by
 obtain ⟨fs,ys,h0,h1,h2⟩:=h
 obtain ⟨gs,zs,h3,h4,h5⟩:=h2
 obtain ⟨us,h6,h7⟩:=ArgsT_one h5
 obtain ⟨m,hm⟩:=isI (n:=5) h1
 obtain ⟨l,hl,hb⟩:=isStks (n:=3) h4
 obtain ⟨a,b,hu⟩:=isTwo (n:=4) h7
 rw [h0,h3,h6,argI hm,argStks hl,hu]
 exact v7 _ (fam_ctx KL) (at15 rfl) (at17 rfl) (at18 rfl) (at28 rfl) (at32 rfl) m l a b hb false false
set_option maxRecDepth 100000 in
theorem turned_lifted (os:Os) (started:os.Started) (H:Type) (enc:TypeId×Value->H) :
  ReturnsInHanded {} Tryd.checked os 7 .any (fun w args=>(Rows.shareTurnedSpec.pre enc Tryd.prog Tryd.f7 [] false w args/\laidMetH Tryd.prog laidP w)/\sizedMet enc Tryd.prog Tryd.f7 (OpenSpec.ofChange Rows.shareTurnedSpec) false w args)
   (Rows.shareTurnedSpec.post enc Tryd.prog Tryd.f7 false true false false):=by
 refine returnsInHanded_of_change_and (C:=Tryd.checked) (X:=fun w _=>laidMetH Tryd.prog laidP w) (fun _ _ _ hh h=>h.of_heap hh) ownP started (by kernel_rfl) Tryd.func7
  (ChangeSpec.witness_shaped (enc:=enc) (C:=Tryd.checked) (os:=os) (X:=fun w _=>laidMetH Tryd.prog laidP w) false (World.doorLaid Tryd.prog 2000 os) #[.int .i64 0,.slice none 0 0,.agg #[.int .i64 0,.int .i64 0]] 8 rfl (World.shaped_of_RefB (by kernel_rfl) (by kernel_rfl)) (by kernel_rfl) (by kernel_rfl) (by kernel_rfl) (door_met os _)) ?_
 intro W base args ds gs before hval hW _ hwt hL _
 refine law_contract (P:=Tryd.prog) (f:=Tryd.f7) (s:=Rows.shareTurnedSpec) (n:=6) (tb:=4) (by kernel_rfl) ?_ ?_ rfl (by kernel_rfl) Tryd.underlying4 ?_ ?_ hval hW hwt (gl_of_laid hL)
 ·rw [Tryd.params7]; intro t ht; simp at ht; rcases ht with rfl | rfl | rfl<;>exact ⟨by kernel_rfl,of_decide_eq_true (by kernel_rfl)⟩
 ·rw [Tryd.params7]; intro t ht; simp at ht; rcases ht with rfl | rfl | rfl<;>kernel_rfl
 ·rw [Tryd.params7]
  intro ds hd
  match ds,hd with
  | [d0,d1,d2],_=>rfl
 ·rw [Tryd.params7]
  exact fun xs h=>turned_args h
theorem turned_row:Rows.ShareTurnedSaid :=
 OpenClaim.holds_of_wide 7 Tryd.f7 rfl rfl rfl rfl rfl rfl rfl ⟨rfl,rfl,rfl,rfl,rfl⟩ rfl rfl rfl rfl rfl (by kernel_rfl) Tryd.func7 (by kernel_rfl)
  (of_decide_eq_true (by kernel_rfl)) (by unfold Func.isWrapper; first | (rw [if_pos (by decide +kernel)]; kernel_rfl) | (rw [if_neg (by decide +kernel)]; exact ⟨rfl,rfl⟩))
  (fun os started H enc _=>turned_lifted os started H enc)
theorem turned_holds:Rows.ShareTurnedCardSaid :=
 Claim7.holds_tied_plain_at .later [] [.funcs] true (true, "752db1fba4dc1baf50c9642d1c5ef5d5de6bfa672efa457c4487cae6568e6d83") false
  turned_row (fun _ h=>by cases h) (by kernel_rfl) (fun _ h=>by cases h) shareTurned_row_tie rfl ⟨rfl,rfl⟩ (by kernel_rfl) rfl
  (fun f fn hf hfn=>by
   obtain rfl : f = 7 := Option.some.inj ((show Tryd.prog.funcNamed "drifter/drifterlaw03.ShareTurned" = some 7 by kernel_rfl).symm.trans hf) |>.symm
   obtain rfl:fn=Tryd.f7:=(Option.some.inj (Tryd.func7.symm.trans hfn)).symm
   exact ⟨by kernel_rfl,fun j t ht=>by
    rw [Tryd.params7] at ht
    have hm:t∈([3,22,46]:List TypeId):=by
     have:=Array.mem_of_getElem? ht
     simpa using this
    have hall:∀ t∈([3,22,46]:List TypeId),Tryd.prog.wantsStandIn t=false:=by
     intro t ht
     simp only [List.mem_cons,List.not_mem_nil,or_false] at ht
     rcases ht with rfl | rfl | rfl<;>kernel_rfl
    exact hall t hm⟩)
  (by kernel_rfl)
#print axioms turned_holds
end Turned
end Go.Proofs.YtejodhjhddnbeaaDoor.E
