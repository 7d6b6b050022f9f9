/-
  The division (ShareDivides): Divide returns what the chapter says, for any sum and stakes. Conditions: none.
-/
import Derived.Test.YtejodhjhddnbeaaDoorCards
import Derived.Test.YtejodhjhddnbeaaDoorTie
import Derived.Test.YtejodhjhddnbeaaDoorZ24
import Derived.Test.YtejodhjhddnbeaaDoorZ25
import Derived.Test.YtejodhjhddnbeaaDoorZD4
import Derived.SevenTiedAt
set_option linter.unusedVariables false
set_option linter.unusedSimpArgs false
namespace Go.Proofs.YtejodhjhddnbeaaDoor.E
open Go Go.RowKit
namespace Divides
theorem strs_inj {l m:List ByteArray}:strs l=strs m↔l=m:=map_inj fun a b h=>by cases h; rfl
noncomputable def F52:Fm where
 k:=52
 α:={ x:(List Stk)×Bool×Bool // (match x with | (l,ro,c)=>(l.length < 2^44)) }
 f:=fun ⟨(l,ro,c),_⟩=>[(ro,.sl c 2 (stL l))]
 g:=fun ⟨(l,ro,c),_⟩=>[.fv (.int .i64 (sumI (wts l)))]
 inj:=fun ⟨(l,ro,c),_⟩ ⟨(l',ro',c'),_⟩ hh=>by
  simp [ints_inj,stL_inj,voyF_inj,shF_inj,duF_inj,paL_inj,natL_inj,bookF_inj,stF_inj,duL_inj,Int.natCast_inj] at hh
  simp [hh]
 ok:=fun ⟨(l,ro,c),hl⟩=>v52 _ (fam_ctx KL) l ro c hl
 en:=enters_of Tryd.func52 (by kernel_rfl)
theorem at52 {L:List Fm} (h:L.find? (fun G=>G.k==52)=some F52):H52 (famCtx L):=fun l ro c hl=>fam_at (F:=F52) h ⟨(l,ro,c),hl⟩ rfl rfl
noncomputable def F78:Fm where
 k:=78
 α:={ x:ByteArray×Bool // True }
 f:=fun ⟨(s,ro),_⟩=>[(ro,.str s)]
 g:=fun ⟨(s,ro),_⟩=>[.fv (.bool (nameOk s))]
 inj:=fun ⟨(s,ro),_⟩ ⟨(s',ro'),_⟩ hh=>by
  simp [ints_inj,stL_inj,voyF_inj,shF_inj,duF_inj,paL_inj,natL_inj,bookF_inj,stF_inj,duL_inj,Int.natCast_inj] at hh
  simp [hh]
 ok:=fun ⟨(s,ro),_⟩=>v78 _ (fam_ctx KL) (at29 rfl) s ro
 en:=enters_of Tryd.func78 (by kernel_rfl)
theorem at78 {L:List Fm} (h:L.find? (fun G=>G.k==78)=some F78):H78 (famCtx L):=fun s ro=>fam_at (F:=F78) h ⟨(s,ro),trivial⟩ rfl rfl
noncomputable def F79:Fm where
 k:=79
 α:={ x:(List ByteArray)×ByteArray×Bool×Bool×Bool // (match x with | (l,n,ro,r1,c)=>(l.length < 2^44)) }
 f:=fun ⟨(l,n,ro,r1,c),_⟩=>[(ro,.sl c 1 (strs l)),(r1,.str n)]
 g:=fun ⟨(l,n,ro,r1,c),_⟩=>[.fv (.int .i64 (idx (fun x:ByteArray=>x==n) l))]
 inj:=fun ⟨(l,n,ro,r1,c),_⟩ ⟨(l',n',ro',r1',c'),_⟩ hh=>by
  simp [ints_inj,stL_inj,voyF_inj,shF_inj,duF_inj,paL_inj,natL_inj,bookF_inj,stF_inj,duL_inj,Int.natCast_inj,strs_inj] at hh
  simp [hh]
 ok:=fun ⟨(l,n,ro,r1,c),hl⟩=>v79 _ (fam_ctx KL) l n hl ro r1 c
 en:=enters_of Tryd.func79 (by kernel_rfl)
theorem at79 {L:List Fm} (h:L.find? (fun G=>G.k==79)=some F79):H79 (famCtx L):=fun l n ro r1 c hl=>fam_at (F:=F79) h ⟨(l,n,ro,r1,c),hl⟩ rfl rfl
noncomputable def KDa0:List Fm:=F52 :: F78 :: F79 :: KL
noncomputable def F51:Fm where
 k:=51
 α:={ x:(List Stk)×Bool×Bool // (match x with | (l,ro,c)=>(l.length < 2^44)) }
 f:=fun ⟨(l,ro,c),_⟩=>[(ro,.sl c 2 (stL l))]
 g:=fun ⟨(l,ro,c),_⟩=>[.fv (.bool (stakesOk l))]
 inj:=fun ⟨(l,ro,c),_⟩ ⟨(l',ro',c'),_⟩ hh=>by
  simp [ints_inj,stL_inj,voyF_inj,shF_inj,duF_inj,paL_inj,natL_inj,bookF_inj,stF_inj,duL_inj,Int.natCast_inj] at hh
  simp [hh]
 ok:=fun ⟨(l,ro,c),hl⟩=>v51 _ (fam_ctx KDa0) (at29 rfl) (at78 rfl) (at79 rfl) l ro c hl
 en:=enters_of Tryd.func51 (by kernel_rfl)
theorem at51 {L:List Fm} (h:L.find? (fun G=>G.k==51)=some F51):H51 (famCtx L):=fun l ro c hl=>fam_at (F:=F51) h ⟨(l,ro,c),hl⟩ rfl rfl
noncomputable def F53:Fm where
 k:=53
 α:={ x:Int×(List Stk)×Bool×Bool×Bool // (match x with | (all,l,r0,ro,c)=>(DivOk all l)) }
 f:=fun ⟨(all,l,r0,ro,c),_⟩=>[(r0,.int .i64 all),(ro,.sl c 2 (stL l))]
 g:=fun ⟨(all,l,r0,ro,c),_⟩=>[.us 1 (ints (divF all l))]
 inj:=fun ⟨(all,l,r0,ro,c),_⟩ ⟨(all',l',r0',ro',c'),_⟩ hh=>by
  simp [ints_inj,stL_inj,voyF_inj,shF_inj,duF_inj,paL_inj,natL_inj,bookF_inj,stF_inj,duL_inj,Int.natCast_inj] at hh
  simp [hh]
 ok:=fun ⟨(all,l,r0,ro,c),hd⟩=>v53 _ (fam_ctx KDa0) (at52 rfl) all l r0 ro c hd
 en:=enters_of Tryd.func53 (by kernel_rfl)
theorem at53 {L:List Fm} (h:L.find? (fun G=>G.k==53)=some F53):H53 (famCtx L):=fun all l r0 ro c hd=>fam_at (F:=F53) h ⟨(all,l,r0,ro,c),hd⟩ rfl rfl
noncomputable def KDa1:List Fm:=F52 :: F78 :: F79 :: F51 :: F53 :: KL
noncomputable def F16:Fm where
 k:=16
 α:={ x:Int×(List Stk)×Bool×Bool×Bool // (match x with | (all,l,r0,ro,c)=>(l.length < 2^44)) }
 f:=fun ⟨(all,l,r0,ro,c),_⟩=>[(r0,.int .i64 all),(ro,.sl c 2 (stL l))]
 g:=fun ⟨(all,l,r0,ro,c),_⟩=>[.us 1 (ints (divideF all l).1),.fv (.int .i64 (divideF all l).2)]
 inj:=fun ⟨(all,l,r0,ro,c),_⟩ ⟨(all',l',r0',ro',c'),_⟩ hh=>by
  simp [ints_inj,stL_inj,voyF_inj,shF_inj,duF_inj,paL_inj,natL_inj,bookF_inj,stF_inj,duL_inj,Int.natCast_inj] at hh
  simp [hh]
 ok:=fun ⟨(all,l,r0,ro,c),hl⟩=>v16 _ (fam_ctx KDa1) (at29 rfl) (at51 rfl) (at52 rfl) (at53 rfl) all l r0 ro c hl
 en:=enters_of Tryd.func16 (by kernel_rfl)
theorem at16 {L:List Fm} (h:L.find? (fun G=>G.k==16)=some F16):H16 (famCtx L):=fun all l r0 ro c hl=>fam_at (F:=F16) h ⟨(all,l,r0,ro,c),hl⟩ rfl rfl
noncomputable def KDv:List Fm:=F52 :: F78 :: F79 :: F51 :: F53 :: F16 :: KL
theorem divides_args {xs:List FV} (h:ArgsT Tryd.prog 6 [3,22] xs):Valid Tryd.prog 3 (xs.map fun x=>(false,x)) [.fv (.bool true)]:=by
 obtain ⟨fs,ys,h0,h1,h2⟩:=h
 obtain ⟨us,h6,h7⟩:=ArgsT_one h2
 obtain ⟨m,hm⟩:=isI (n:=5) h1
 obtain ⟨l,hl,hb⟩:=isStks (n:=3) h7
 rw [h0,h6,argI hm,argStks hl]
 exact v3 _ (fam_ctx KDv) (at15 rfl) (at16 rfl) (at17 rfl) (at18 rfl) m l hb false false false
set_option maxRecDepth 100000 in
theorem divides_lifted (os:Os) (started:os.Started) (H:Type) (enc:TypeId×Value->H) :
  ReturnsInHanded {} Tryd.checked os 3 .any (fun w args=>(Rows.shareDividesSpec.pre enc Tryd.prog Tryd.f3 [] false w args/\laidMetH Tryd.prog laidP w)/\sizedMet enc Tryd.prog Tryd.f3 (OpenSpec.ofChange Rows.shareDividesSpec) false w args)
   (Rows.shareDividesSpec.post enc Tryd.prog Tryd.f3 false true false false):=by
 refine returnsInHanded_of_change_and (C:=Tryd.checked) (X:=fun w _=>laidMetH Tryd.prog laidP w) (fun _ _ _ hh h=>h.of_heap hh) ownP started (by kernel_rfl) Tryd.func3
  (ChangeSpec.witness_shaped (enc:=enc) (C:=Tryd.checked) (os:=os) (X:=fun w _=>laidMetH Tryd.prog laidP w) false (World.doorLaid Tryd.prog 2000 os) #[.int .i64 0,.slice none 0 0] 8 rfl (World.shaped_of_RefB (by kernel_rfl) (by kernel_rfl)) (by kernel_rfl) (by kernel_rfl) (by kernel_rfl) (door_met os _)) ?_
 intro W base args ds gs before hval hW _ hwt hL _
 refine law_contract (P:=Tryd.prog) (f:=Tryd.f3) (s:=Rows.shareDividesSpec) (n:=6) (tb:=4) (by kernel_rfl) ?_ ?_ rfl (by kernel_rfl) Tryd.underlying4 ?_ ?_ hval hW hwt (gl_of_laid hL)
 ·rw [Tryd.params3]; intro t ht; simp at ht; rcases ht with rfl | rfl<;>exact ⟨by kernel_rfl,of_decide_eq_true (by kernel_rfl)⟩
 ·rw [Tryd.params3]; intro t ht; simp at ht; rcases ht with rfl | rfl<;>kernel_rfl
 ·rw [Tryd.params3]
  intro ds hd
  match ds,hd with
  | [d0,d1],_=>rfl
 ·rw [Tryd.params3]
  exact fun xs h=>divides_args h
theorem divides_row:Rows.ShareDividesSaid :=
 OpenClaim.holds_of_wide 3 Tryd.f3 rfl rfl rfl rfl rfl rfl rfl ⟨rfl,rfl,rfl,rfl,rfl⟩ rfl rfl rfl rfl rfl (by kernel_rfl) Tryd.func3 (by kernel_rfl)
  (of_decide_eq_true (by kernel_rfl)) (by unfold Func.isWrapper; first | (rw [if_pos (by decide +kernel)]; kernel_rfl) | (rw [if_neg (by decide +kernel)]; exact ⟨rfl,rfl⟩))
  (fun os started H enc _=>divides_lifted os started H enc)
theorem divides_holds:Rows.ShareDividesCardSaid :=
 Claim7.holds_tied_plain_at .later [] [.funcs] true (true, "752db1fba4dc1baf50c9642d1c5ef5d5de6bfa672efa457c4487cae6568e6d83") false
  divides_row (fun _ h=>by cases h) (by kernel_rfl) (fun _ h=>by cases h) shareDivides_row_tie rfl ⟨rfl,rfl⟩ (by kernel_rfl) rfl
  (fun f fn hf hfn=>by
   obtain rfl : f = 3 := Option.some.inj ((show Tryd.prog.funcNamed "drifter/drifterlaw03.ShareDivides" = some 3 by kernel_rfl).symm.trans hf) |>.symm
   obtain rfl:fn=Tryd.f3:=(Option.some.inj (Tryd.func3.symm.trans hfn)).symm
   exact ⟨by kernel_rfl,fun j t ht=>by
    rw [Tryd.params3] at ht
    have hm:t∈([3,22]:List TypeId):=by
     have:=Array.mem_of_getElem? ht
     simpa using this
    have hall:∀ t∈([3,22]:List TypeId),Tryd.prog.wantsStandIn t=false:=by
     intro t ht
     simp only [List.mem_cons,List.not_mem_nil,or_false] at ht
     rcases ht with rfl | rfl<;>kernel_rfl
    exact hall t hm⟩)
  (by kernel_rfl)
#print axioms divides_holds
end Divides
end Go.Proofs.YtejodhjhddnbeaaDoor.E
