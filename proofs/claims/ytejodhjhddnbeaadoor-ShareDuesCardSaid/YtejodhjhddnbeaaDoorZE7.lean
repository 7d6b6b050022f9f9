/-
  The dues (ShareDues): Shares returns what the chapter says, for any voyage. Conditions: none.
-/
import Derived.Test.YtejodhjhddnbeaaDoorCards
import Derived.Test.YtejodhjhddnbeaaDoorTie
import Derived.Test.YtejodhjhddnbeaaDoorZ24
import Derived.Test.YtejodhjhddnbeaaDoorZ25
import Derived.Test.YtejodhjhddnbeaaDoorZE6
import Derived.SevenTiedAt
set_option linter.unusedVariables false
set_option linter.unusedSimpArgs false
namespace Go.Proofs.YtejodhjhddnbeaaDoor.E
open Go Go.RowKit
namespace Dues
theorem strs_inj {l m:List ByteArray}:strs l=strs m↔l=m:=map_inj fun a b h=>by cases h; rfl
noncomputable def F52:Fm where
 k:=52
 α:={ x:(List Stk)×Bool×Bool // (match x with | (l,ro,c)=>(l.length < 2^44)) }
 f:=fun ⟨(l,ro,c),_⟩=>[(ro,.sl c 2 (stL l))]
 g:=fun ⟨(l,ro,c),_⟩=>[.fv (.int .i64 (sumI (wts l)))]
 inj:=fun ⟨(l,ro,c),_⟩ ⟨(l',ro',c'),_⟩ hh=>by
  simp [ints_inj,stL_inj,voyF_inj,shF_inj,duF_inj,paL_inj,natL_inj,bookF_inj,stF_inj,duL_inj,Int.natCast_inj] at hh
  simp [hh]
 ok:=fun ⟨(l,ro,c),hl⟩=>v52 _ (fam_ctx KL) l ro c hl
 en:=enters_of Tryd.func52 (by kernel_rfl)
theorem at52 {L:List Fm} (h:L.find? (fun G=>G.k==52)=some F52):H52 (famCtx L):=fun l ro c hl=>fam_at (F:=F52) h ⟨(l,ro,c),hl⟩ rfl rfl
noncomputable def F78:Fm where
 k:=78
 α:={ x:ByteArray×Bool // True }
 f:=fun ⟨(s,ro),_⟩=>[(ro,.str s)]
 g:=fun ⟨(s,ro),_⟩=>[.fv (.bool (nameOk s))]
 inj:=fun ⟨(s,ro),_⟩ ⟨(s',ro'),_⟩ hh=>by
  simp [ints_inj,stL_inj,voyF_inj,shF_inj,duF_inj,paL_inj,natL_inj,bookF_inj,stF_inj,duL_inj,Int.natCast_inj] at hh
  simp [hh]
 ok:=fun ⟨(s,ro),_⟩=>v78 _ (fam_ctx KL) (at29 rfl) s ro
 en:=enters_of Tryd.func78 (by kernel_rfl)
theorem at78 {L:List Fm} (h:L.find? (fun G=>G.k==78)=some F78):H78 (famCtx L):=fun s ro=>fam_at (F:=F78) h ⟨(s,ro),trivial⟩ rfl rfl
noncomputable def F79:Fm where
 k:=79
 α:={ x:(List ByteArray)×ByteArray×Bool×Bool×Bool // (match x with | (l,n,ro,r1,c)=>(l.length < 2^44)) }
 f:=fun ⟨(l,n,ro,r1,c),_⟩=>[(ro,.sl c 1 (strs l)),(r1,.str n)]
 g:=fun ⟨(l,n,ro,r1,c),_⟩=>[.fv (.int .i64 (idx (fun x:ByteArray=>x==n) l))]
 inj:=fun ⟨(l,n,ro,r1,c),_⟩ ⟨(l',n',ro',r1',c'),_⟩ hh=>by
  simp [ints_inj,stL_inj,voyF_inj,shF_inj,duF_inj,paL_inj,natL_inj,bookF_inj,stF_inj,duL_inj,Int.natCast_inj,strs_inj] at hh
  simp [hh]
 ok:=fun ⟨(l,n,ro,r1,c),hl⟩=>v79 _ (fam_ctx KL) l n hl ro r1 c
 en:=enters_of Tryd.func79 (by kernel_rfl)
theorem at79 {L:List Fm} (h:L.find? (fun G=>G.k==79)=some F79):H79 (famCtx L):=fun l n ro r1 c hl=>fam_at (F:=F79) h ⟨(l,n,ro,r1,c),hl⟩ rfl rfl
noncomputable def F81:Fm where
 k:=81
 α:={ x:Voy×ByteArray×Bool×Bool // (match x with | (v,n,ro,r1)=>(v.lend.length < 2^44)) }
 f:=fun ⟨(v,n,ro,r1),_⟩=>[(ro,voyF v),(r1,.str n)]
 g:=fun ⟨(v,n,ro,r1),_⟩=>[.fv (.int .i64 (placeF v.lend n))]
 inj:=fun ⟨(v,n,ro,r1),_⟩ ⟨(v',n',ro',r1'),_⟩ hh=>by
  simp [ints_inj,stL_inj,voyF_inj,shF_inj,duF_inj,paL_inj,natL_inj,bookF_inj,stF_inj,duL_inj,Int.natCast_inj] at hh
  simp [hh]
 ok:=fun ⟨(v,n,ro,r1),hl⟩=>v81 _ (fam_ctx KL) v n hl ro r1
 en:=enters_of Tryd.func81 (by kernel_rfl)
theorem at81 {L:List Fm} (h:L.find? (fun G=>G.k==81)=some F81):H81 (famCtx L):=fun v n ro r1 hl=>fam_at (F:=F81) h ⟨(v,n,ro,r1),hl⟩ rfl rfl
noncomputable def F60:Fm where
 k:=60
 α:={ v:Voy // (VoyOk v) }
 f:=fun ⟨v,_⟩=>[(false,voyF v)]
 g:=fun ⟨v,_⟩=>[.fv (.int .i64 (netF v))]
 inj:=fun ⟨v,_⟩ ⟨v',_⟩ hh=>by
  simp [ints_inj,stL_inj,voyF_inj,shF_inj,duF_inj,paL_inj,natL_inj,bookF_inj,stF_inj,duL_inj,Int.natCast_inj] at hh
  simp [hh]
 ok:=fun ⟨v,hv⟩=>v60 _ (fam_ctx KL) (at34 rfl) v hv
 en:=enters_of Tryd.func60 (by kernel_rfl)
theorem at60 {L:List Fm} (h:L.find? (fun G=>G.k==60)=some F60):H60 (famCtx L):=fun v hv=>fam_at (F:=F60) h ⟨v,hv⟩ rfl rfl
noncomputable def KEa0:List Fm:=F52 :: F78 :: F79 :: F81 :: F60 :: KL
noncomputable def F51:Fm where
 k:=51
 α:={ x:(List Stk)×Bool×Bool // (match x with | (l,ro,c)=>(l.length < 2^44)) }
 f:=fun ⟨(l,ro,c),_⟩=>[(ro,.sl c 2 (stL l))]
 g:=fun ⟨(l,ro,c),_⟩=>[.fv (.bool (stakesOk l))]
 inj:=fun ⟨(l,ro,c),_⟩ ⟨(l',ro',c'),_⟩ hh=>by
  simp [ints_inj,stL_inj,voyF_inj,shF_inj,duF_inj,paL_inj,natL_inj,bookF_inj,stF_inj,duL_inj,Int.natCast_inj] at hh
  simp [hh]
 ok:=fun ⟨(l,ro,c),hl⟩=>v51 _ (fam_ctx KEa0) (at29 rfl) (at78 rfl) (at79 rfl) l ro c hl
 en:=enters_of Tryd.func51 (by kernel_rfl)
theorem at51 {L:List Fm} (h:L.find? (fun G=>G.k==51)=some F51):H51 (famCtx L):=fun l ro c hl=>fam_at (F:=F51) h ⟨(l,ro,c),hl⟩ rfl rfl
noncomputable def F53:Fm where
 k:=53
 α:={ x:Int×(List Stk)×Bool×Bool×Bool // (match x with | (all,l,r0,ro,c)=>(DivOk all l)) }
 f:=fun ⟨(all,l,r0,ro,c),_⟩=>[(r0,.int .i64 all),(ro,.sl c 2 (stL l))]
 g:=fun ⟨(all,l,r0,ro,c),_⟩=>[.us 1 (ints (divF all l))]
 inj:=fun ⟨(all,l,r0,ro,c),_⟩ ⟨(all',l',r0',ro',c'),_⟩ hh=>by
  simp [ints_inj,stL_inj,voyF_inj,shF_inj,duF_inj,paL_inj,natL_inj,bookF_inj,stF_inj,duL_inj,Int.natCast_inj] at hh
  simp [hh]
 ok:=fun ⟨(all,l,r0,ro,c),hd⟩=>v53 _ (fam_ctx KEa0) (at52 rfl) all l r0 ro c hd
 en:=enters_of Tryd.func53 (by kernel_rfl)
theorem at53 {L:List Fm} (h:L.find? (fun G=>G.k==53)=some F53):H53 (famCtx L):=fun all l r0 ro c hd=>fam_at (F:=F53) h ⟨(all,l,r0,ro,c),hd⟩ rfl rfl
noncomputable def F56:Fm where
 k:=56
 α:={ v:Voy // (v.lend.length<=10)/\(∀ x∈v.lend,0<=x.2/\x.2<=1000)/\(v.loans.length < 2^44) }
 f:=fun ⟨v,_⟩=>[(false,voyF v)]
 g:=fun ⟨v,_⟩=>[.us 1 (ints (clmE v).1),.fv (.bool (clmE v).2)]
 inj:=fun ⟨v,_⟩ ⟨v',_⟩ hh=>by
  simp [ints_inj,stL_inj,voyF_inj,shF_inj,duF_inj,paL_inj,natL_inj,bookF_inj,stF_inj,duL_inj,Int.natCast_inj] at hh
  simp [hh]
 ok:=fun ⟨v,⟨h1,h2,h3⟩⟩=>v56 _ (fam_ctx KEa0) (at29 rfl) (at81 rfl) v h1 h2 h3
 en:=enters_of Tryd.func56 (by kernel_rfl)
theorem at56 {L:List Fm} (h:L.find? (fun G=>G.k==56)=some F56):H56 (famCtx L):=fun v h1 h2 h3=>fam_at (F:=F56) h ⟨v,⟨h1,h2,h3⟩⟩ rfl rfl
noncomputable def KEa1:List Fm:=F52 :: F78 :: F79 :: F81 :: F60 :: F51 :: F53 :: F56 :: KL
noncomputable def F66:Fm where
 k:=66
 α:={ x:Int×(List Stk)×ByteArray×Bool×Bool×Bool×Bool // (match x with | (all,l,n,r0,ro,r2,c)=>(StkOk l)/\(0<=all/\all<=10000000)) }
 f:=fun ⟨(all,l,n,r0,ro,r2,c),_⟩=>[(r0,.int .i64 all),(ro,.sl c 2 (stL l)),(r2,.str n)]
 g:=fun ⟨(all,l,n,r0,ro,r2,c),_⟩=>[.fv (.int .i64 (ofF all l n))]
 inj:=fun ⟨(all,l,n,r0,ro,r2,c),_⟩ ⟨(all',l',n',r0',ro',r2',c'),_⟩ hh=>by
  simp [ints_inj,stL_inj,voyF_inj,shF_inj,duF_inj,paL_inj,natL_inj,bookF_inj,stF_inj,duL_inj,Int.natCast_inj] at hh
  simp [hh]
 ok:=fun ⟨(all,l,n,r0,ro,r2,c),⟨hs,ha⟩⟩=>v66 _ (fam_ctx KEa1) (at52 rfl) (at53 rfl) all l n hs ha r0 ro r2 c
 en:=enters_of Tryd.func66 (by kernel_rfl)
theorem at66 {L:List Fm} (h:L.find? (fun G=>G.k==66)=some F66):H66 (famCtx L):=fun all l n r0 ro r2 c hs ha=>fam_at (F:=F66) h ⟨(all,l,n,r0,ro,r2,c),⟨hs,ha⟩⟩ rfl rfl
noncomputable def F58:Fm where
 k:=58
 α:={ v:Voy // (Small v) }
 f:=fun ⟨v,_⟩=>[(false,voyF v)]
 g:=fun ⟨v,_⟩=>[.fv (.bool (voyOk v))]
 inj:=fun ⟨v,_⟩ ⟨v',_⟩ hh=>by
  simp [ints_inj,stL_inj,voyF_inj,shF_inj,duF_inj,paL_inj,natL_inj,bookF_inj,stF_inj,duL_inj,Int.natCast_inj] at hh
  simp [hh]
 ok:=fun ⟨v,hv⟩=>v58 _ (fam_ctx KEa1) (at29 rfl) (at34 rfl) (at51 rfl) (at52 rfl) v hv
 en:=enters_of Tryd.func58 (by kernel_rfl)
theorem at58 {L:List Fm} (h:L.find? (fun G=>G.k==58)=some F58):H58 (famCtx L):=fun v hv=>fam_at (F:=F58) h ⟨v,hv⟩ rfl rfl
noncomputable def KEa2:List Fm:=F52 :: F78 :: F79 :: F81 :: F60 :: F51 :: F53 :: F56 :: F66 :: F58 :: KL
noncomputable def F22:Fm where
 k:=22
 α:={ v:Voy // (Small v) }
 f:=fun ⟨v,_⟩=>[(false,voyF v)]
 g:=fun ⟨v,_⟩=>[.fv (.int .i64 (checkF v))]
 inj:=fun ⟨v,_⟩ ⟨v',_⟩ hh=>by
  simp [ints_inj,stL_inj,voyF_inj,shF_inj,duF_inj,paL_inj,natL_inj,bookF_inj,stF_inj,duL_inj,Int.natCast_inj] at hh
  simp [hh]
 ok:=fun ⟨v,hv⟩=>v22 _ (fam_ctx KEa2) (at56 rfl) (at58 rfl) v hv
 en:=enters_of Tryd.func22 (by kernel_rfl)
theorem at22 {L:List Fm} (h:L.find? (fun G=>G.k==22)=some F22):H22 (famCtx L):=fun v hv=>fam_at (F:=F22) h ⟨v,hv⟩ rfl rfl
noncomputable def KEa3:List Fm:=F52 :: F78 :: F79 :: F81 :: F60 :: F51 :: F53 :: F56 :: F66 :: F58 :: F22 :: KL
noncomputable def F24:Fm where
 k:=24
 α:={ v:Voy // (Small v) }
 f:=fun ⟨v,_⟩=>[(false,voyF v)]
 g:=fun ⟨v,_⟩=>[.fv (.int .i64 ((partsR v).getD 0 0)),.fv (.int .i64 ((partsR v).getD 1 0)),.fv (.int .i64 ((partsR v).getD 2 0)),.fv (.int .i64 (checkF v))]
 inj:=fun ⟨v,_⟩ ⟨v',_⟩ hh=>by
  simp [ints_inj,stL_inj,voyF_inj,shF_inj,duF_inj,paL_inj,natL_inj,bookF_inj,stF_inj,duL_inj,Int.natCast_inj] at hh
  simp [hh]
 ok:=fun ⟨v,hv⟩=>v24 _ (fam_ctx KEa3) (at22 rfl) (at53 rfl) (at60 rfl) v hv
 en:=enters_of Tryd.func24 (by kernel_rfl)
theorem at24 {L:List Fm} (h:L.find? (fun G=>G.k==24)=some F24):H24 (famCtx L):=fun v hv=>fam_at (F:=F24) h ⟨v,hv⟩ rfl rfl
noncomputable def KEa4:List Fm:=F52 :: F78 :: F79 :: F81 :: F60 :: F51 :: F53 :: F56 :: F66 :: F58 :: F22 :: F24 :: KL
noncomputable def F26:Fm where
 k:=26
 α:={ v:Voy // (Small v) }
 f:=fun ⟨v,_⟩=>[(false,voyF v)]
 g:=fun ⟨v,_⟩=>[.us 4 (duL (sharesF v)),.fv (.int .i64 (checkF v))]
 inj:=fun ⟨v,_⟩ ⟨v',_⟩ hh=>by
  simp [ints_inj,stL_inj,voyF_inj,shF_inj,duF_inj,paL_inj,natL_inj,bookF_inj,stF_inj,duL_inj,Int.natCast_inj] at hh
  simp [hh]
 ok:=fun ⟨v,hv⟩=>v26 _ (fam_ctx KEa4) (at24 rfl) (at56 rfl) (at66 rfl) v hv
 en:=enters_of Tryd.func26 (by kernel_rfl)
theorem at26 {L:List Fm} (h:L.find? (fun G=>G.k==26)=some F26):H26 (famCtx L):=fun v hv=>fam_at (F:=F26) h ⟨v,hv⟩ rfl rfl
noncomputable def KEv:List Fm:=F52 :: F78 :: F79 :: F81 :: F60 :: F51 :: F53 :: F56 :: F66 :: F58 :: F22 :: F24 :: F26 :: KL
theorem dues_args {xs:List FV} (h:ArgsT Tryd.prog 6 [32] xs):Valid Tryd.prog 5 (xs.map fun x=>(false,x)) [.fv (.bool true)]:=by
 obtain ⟨fs,h0,h1⟩:=ArgsT_one h
 obtain ⟨v,hf,hv⟩:=isVoy (n:=2) h1
 rw [h0,hf]
 exact v5 _ (fam_ctx KEv) (at18 rfl) (at25 rfl) (at26 rfl) (at27 rfl) v hv
set_option maxRecDepth 100000 in
theorem dues_lifted (os:Os) (started:os.Started) (H:Type) (enc:TypeId×Value->H) :
  ReturnsInHanded {} Tryd.checked os 5 .any (fun w args=>(Rows.shareDuesSpec.pre enc Tryd.prog Tryd.f5 [] false w args/\laidMetH Tryd.prog laidP w)/\sizedMet enc Tryd.prog Tryd.f5 (OpenSpec.ofChange Rows.shareDuesSpec) false w args)
   (Rows.shareDuesSpec.post enc Tryd.prog Tryd.f5 false true false false):=by
 refine returnsInHanded_of_change_and (C:=Tryd.checked) (X:=fun w _=>laidMetH Tryd.prog laidP w) (fun _ _ _ hh h=>h.of_heap hh) ownP started (by kernel_rfl) Tryd.func5
  (ChangeSpec.witness_shaped (enc:=enc) (C:=Tryd.checked) (os:=os) (X:=fun w _=>laidMetH Tryd.prog laidP w) false (World.doorLaid Tryd.prog 2000 os) #[.agg #[.int .i64 0,.slice none 0 0,.int .i64 0,.int .i64 0,.int .i64 0,.slice none 0 0,.slice none 0 0,.slice none 0 0,.slice none 0 0]] 8 rfl (World.shaped_of_RefB (by kernel_rfl) (by kernel_rfl)) (by kernel_rfl) (by kernel_rfl) (by kernel_rfl) (door_met os _)) ?_
 intro W base args ds gs before hval hW _ hwt hL _
 refine law_contract (P:=Tryd.prog) (f:=Tryd.f5) (s:=Rows.shareDuesSpec) (n:=6) (tb:=4) (by kernel_rfl) ?_ ?_ rfl (by kernel_rfl) Tryd.underlying4 ?_ ?_ hval hW hwt (gl_of_laid hL)
 ·rw [Tryd.params5]; intro t ht; simp at ht; subst ht; exact ⟨by kernel_rfl,of_decide_eq_true (by kernel_rfl)⟩
 ·rw [Tryd.params5]; intro t ht; simp at ht; subst ht; kernel_rfl
 ·rw [Tryd.params5]
  intro ds hd
  match ds,hd with
  | [d0],_=>rfl
 ·rw [Tryd.params5]
  exact fun xs h=>dues_args h
theorem dues_row:Rows.ShareDuesSaid :=
 OpenClaim.holds_of_wide 5 Tryd.f5 rfl rfl rfl rfl rfl rfl rfl ⟨rfl,rfl,rfl,rfl,rfl⟩ rfl rfl rfl rfl rfl (by kernel_rfl) Tryd.func5 (by kernel_rfl)
  (of_decide_eq_true (by kernel_rfl)) (by unfold Func.isWrapper; first | (rw [if_pos (by decide +kernel)]; kernel_rfl) | (rw [if_neg (by decide +kernel)]; exact ⟨rfl,rfl⟩))
  (fun os started H enc _=>dues_lifted os started H enc)
theorem dues_holds:Rows.ShareDuesCardSaid :=
 Claim7.holds_tied_plain_at .later [] [.funcs] true (true, "752db1fba4dc1baf50c9642d1c5ef5d5de6bfa672efa457c4487cae6568e6d83") false
  dues_row (fun _ h=>by cases h) (by kernel_rfl) (fun _ h=>by cases h) shareDues_row_tie rfl ⟨rfl,rfl⟩ (by kernel_rfl) rfl
  (fun f fn hf hfn=>by
   obtain rfl : f = 5 := Option.some.inj ((show Tryd.prog.funcNamed "drifter/drifterlaw03.ShareDues" = some 5 by kernel_rfl).symm.trans hf) |>.symm
   obtain rfl:fn=Tryd.f5:=(Option.some.inj (Tryd.func5.symm.trans hfn)).symm
   exact ⟨by kernel_rfl,fun j t ht=>by
    rw [Tryd.params5] at ht
    have hm:t∈([32]:List TypeId):=by
     have:=Array.mem_of_getElem? ht
     simpa using this
    have hall:∀ t∈([32]:List TypeId),Tryd.prog.wantsStandIn t=false:=by
     intro t ht
     simp only [List.mem_cons,List.not_mem_nil,or_false] at ht
     subst ht; kernel_rfl
    exact hall t hm⟩)
  (by kernel_rfl)
#print axioms dues_holds
end Dues
end Go.Proofs.YtejodhjhddnbeaaDoor.E
