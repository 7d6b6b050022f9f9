/-
  The theorem of the clearing (ShareCleared): what is cleared leaves nobody with anything to pay or to get, each by less payments than there are balances that are not 0, as many as these less the most groups; no clearing that numbers choose has fewer, for any balances. Conditions: none.
-/
import Derived.Test.YtejodhjhddnbeaaDoorCards
import Derived.Test.YtejodhjhddnbeaaDoorTie
import Derived.Test.YtejodhjhddnbeaaDoorZ24
import Derived.Test.YtejodhjhddnbeaaDoorZ25
import Derived.Test.YtejodhjhddnbeaaDoorZC3
import Derived.SevenTiedAt
set_option linter.unusedVariables false
set_option linter.unusedSimpArgs false
namespace Go.Proofs.YtejodhjhddnbeaaDoor.E
open Go Go.RowKit
namespace Cleared
noncomputable def F73:Fm where
 k:=73
 α:={ x:(List Int)×Int×Bool×Bool×Bool // (match x with | (l,n,ro,r1,c)=>(l.length < 2^44)) }
 f:=fun ⟨(l,n,ro,r1,c),_⟩=>[(ro,.sl c 1 (ints l)),(r1,.int .i64 n)]
 g:=fun ⟨(l,n,ro,r1,c),_⟩=>[.fv (.int .i64 (pickF l n))]
 inj:=fun ⟨(l,n,ro,r1,c),_⟩ ⟨(l',n',ro',r1',c'),_⟩ hh=>by
  simp [ints_inj,stL_inj,voyF_inj,shF_inj,duF_inj,paL_inj,natL_inj,bookF_inj,stF_inj,duL_inj,Int.natCast_inj] at hh
  simp [hh]
 ok:=fun ⟨(l,n,ro,r1,c),hl⟩=>v73 _ (fam_ctx KL) (at32 rfl) l n hl ro r1 c
 en:=enters_of Tryd.func73 (by kernel_rfl)
theorem at73 {L:List Fm} (h:L.find? (fun G=>G.k==73)=some F73):H73 (famCtx L):=fun l n ro r1 c hl=>fam_at (F:=F73) h ⟨(l,n,ro,r1,c),hl⟩ rfl rfl
noncomputable def P0:List Fm:=F73 :: KL
noncomputable def F43:Fm where
 k:=43
 α:={ x:(List Int)×(List Int)×Bool×Bool×Bool×Bool // (match x with | (bal,bits,r0,c0,r1,c1)=>(balances bal=true)/\(bits.length < 2^44)) }
 f:=fun ⟨(bal,bits,r0,c0,r1,c1),_⟩=>[(r0,.sl c0 1 (ints bal)),(r1,.sl c1 1 (ints bits))]
 g:=fun ⟨(bal,bits,r0,c0,r1,c1),_⟩=>[.us 3 (paL (chosenF bal bits))]
 inj:=fun ⟨(bal,bits,r0,c0,r1,c1),_⟩ ⟨(bal',bits',r0',c0',r1',c1'),_⟩ hh=>by
  simp [ints_inj,stL_inj,voyF_inj,shF_inj,duF_inj,paL_inj,natL_inj,bookF_inj,stF_inj,duL_inj,Int.natCast_inj] at hh
  simp [hh]
 ok:=fun ⟨(bal,bits,r0,c0,r1,c1),⟨h1,h2⟩⟩=>v43 _ (fam_ctx P0) (at32 rfl) (at73 rfl) bal bits h1 h2 r0 c0 r1 c1
 en:=enters_of Tryd.func43 (by kernel_rfl)
theorem at43 {L:List Fm} (h:L.find? (fun G=>G.k==43)=some F43):H43 (famCtx L):=fun bal bits r0 c0 r1 c1 h1 h2=>fam_at (F:=F43) h ⟨(bal,bits,r0,c0,r1,c1),⟨h1,h2⟩⟩ rfl rfl
noncomputable def KC:List Fm:=F73 :: F43 :: KL
theorem cleared_args {xs:List FV} (h:ArgsT Tryd.prog 6 [23,23] xs):Valid Tryd.prog 12 (xs.map fun x=>(false,x)) [.fv (.bool true)]:=by
 obtain ⟨fs,ys,h0,h1,h2⟩:=h
 obtain ⟨us,h6,h7⟩:=ArgsT_one h2
 obtain ⟨l,hl,hb⟩:=isL (n:=4) h1
 obtain ⟨m,hm,hc⟩:=isL (n:=4) h7
 rw [h0,h6,argL hl,argL hm]
 exact v12 _ (fam_ctx KC) (at18 rfl) (at37 rfl) (at38 rfl) (at41 rfl) (at42 rfl) (at43 rfl) l m hb hc false false false false
set_option maxRecDepth 100000 in
theorem cleared_lifted (os:Os) (started:os.Started) (H:Type) (enc:TypeId×Value->H) :
  ReturnsInHanded {} Tryd.checked os 12 .any (fun w args=>(Rows.shareClearedSpec.pre enc Tryd.prog Tryd.f12 [] false w args/\laidMetH Tryd.prog laidP w)/\sizedMet enc Tryd.prog Tryd.f12 (OpenSpec.ofChange Rows.shareClearedSpec) false w args)
   (Rows.shareClearedSpec.post enc Tryd.prog Tryd.f12 false true false false):=by
 refine returnsInHanded_of_change_and (C:=Tryd.checked) (X:=fun w _=>laidMetH Tryd.prog laidP w) (fun _ _ _ hh h=>h.of_heap hh) ownP started (by kernel_rfl) Tryd.func12
  (ChangeSpec.witness_shaped (enc:=enc) (C:=Tryd.checked) (os:=os) (X:=fun w _=>laidMetH Tryd.prog laidP w) false (World.doorLaid Tryd.prog 2000 os) #[.slice none 0 0,.slice none 0 0] 8 rfl (World.shaped_of_RefB (by kernel_rfl) (by kernel_rfl)) (by kernel_rfl) (by kernel_rfl) (by kernel_rfl) (door_met os _)) ?_
 intro W base args ds gs before hval hW _ hwt hL _
 refine law_contract (P:=Tryd.prog) (f:=Tryd.f12) (s:=Rows.shareClearedSpec) (n:=6) (tb:=4) (by kernel_rfl) ?_ ?_ rfl (by kernel_rfl) Tryd.underlying4 ?_ ?_ hval hW hwt (gl_of_laid hL)
 ·rw [Tryd.params12]; intro t ht; simp at ht; rcases ht with rfl | rfl<;>exact ⟨by kernel_rfl,of_decide_eq_true (by kernel_rfl)⟩
 ·rw [Tryd.params12]; intro t ht; simp at ht; rcases ht with rfl | rfl<;>kernel_rfl
 ·rw [Tryd.params12]
  intro ds hd
  match ds,hd with
  | [d0,d1],_=>rfl
 ·rw [Tryd.params12]
  exact fun xs h=>cleared_args h
theorem cleared_row:Rows.ShareClearedSaid :=
 OpenClaim.holds_of_wide 12 Tryd.f12 rfl rfl rfl rfl rfl rfl rfl ⟨rfl,rfl,rfl,rfl,rfl⟩ rfl rfl rfl rfl rfl (by kernel_rfl) Tryd.func12 (by kernel_rfl)
  (of_decide_eq_true (by kernel_rfl)) (by unfold Func.isWrapper; first | (rw [if_pos (by decide +kernel)]; kernel_rfl) | (rw [if_neg (by decide +kernel)]; exact ⟨rfl,rfl⟩))
  (fun os started H enc _=>cleared_lifted os started H enc)
theorem cleared_holds:Rows.ShareClearedCardSaid :=
 Claim7.holds_tied_plain_at .later [] [.funcs] true (true, "752db1fba4dc1baf50c9642d1c5ef5d5de6bfa672efa457c4487cae6568e6d83") false
  cleared_row (fun _ h=>by cases h) (by kernel_rfl) (fun _ h=>by cases h) shareCleared_row_tie rfl ⟨rfl,rfl⟩ (by kernel_rfl) rfl
  (fun f fn hf hfn=>by
   obtain rfl : f = 12 := Option.some.inj ((show Tryd.prog.funcNamed "drifter/drifterlaw03.ShareCleared" = some 12 by kernel_rfl).symm.trans hf) |>.symm
   obtain rfl:fn=Tryd.f12:=(Option.some.inj (Tryd.func12.symm.trans hfn)).symm
   exact ⟨by kernel_rfl,fun j t ht=>by
    rw [Tryd.params12] at ht
    have hm:t∈([23,23]:List TypeId):=by
     have:=Array.mem_of_getElem? ht
     simpa using this
    have hall:∀ t∈([23,23]:List TypeId),Tryd.prog.wantsStandIn t=false:=by
     intro t ht
     simp only [List.mem_cons,List.not_mem_nil,or_false] at ht
     rcases ht with rfl | rfl<;>kernel_rfl
    exact hall t hm⟩)
  (by kernel_rfl)
#print axioms cleared_holds
end Cleared
end Go.Proofs.YtejodhjhddnbeaaDoor.E
