/-
  The chapter of the share: its functions, and what they compute. Conditions: none.
-/
import Derived.Test.YtejodhjhddnbeaaDoorZ07
import Derived.Test.YtejodhjhddnbeaaDoorZ21
import Derived.Test.YtejodhjhddnbeaaDoorZ22
set_option linter.unusedVariables false
set_option linter.unusedSimpArgs false
namespace Go.Proofs.YtejodhjhddnbeaaDoor.E
open Go Go.RowKit
abbrev Fm:=Fam Tryd.prog
theorem fam_ctx (L:List Fm):CtxOk (pg (famCtx L)) :=
 { c:=fun k xs res h=>fam_ok h,b:=fun k cells xs res h=>(by cases h),s:=fun k sz xs ys h=>(by cases h),l:=fun k d σ args σ' vs h=>(by cases h),i:=fun k caps xs h=>(by cases h),t:=fun k caps xs i h=>(by cases h) }
theorem fam_none:∀ {L:List Fm} {k:FuncId} {xs:List (Bool×FV)},L.find? (fun G=>G.k==k)=none->famCtx L k xs=none
 | [],_,_,_=>rfl
 | F :: r,k,xs,h=>by
  simp only [List.find?_cons] at h
  split at h
  ·cases h
  ·rename_i hk
   simp only [famCtx]
   rw [if_neg (by simpa using hk)]
   exact fam_none h
theorem enters_of {k:FuncId} {fn:Func} (h:Tryd.prog.funcs[k]? = some fn) (h2:fnChk ⟨fn,[],[],true,false,[]⟩=true):Enters Tryd.prog k :=
 enters_tab (T:=[(k,⟨fn,[],[],true,false,[]⟩)]) (f:=⟨fn,[],[],true,false,[]⟩) ⟨⟨h,h2⟩,trivial⟩ (by simp [lk])
theorem map_inj {α β:Type} {f:α->β} (hf:∀ a b,f a=f b->a=b):∀ {l m:List α},l.map f=m.map f↔l=m
 | [],[]=>by simp
 | [],y :: m=>by simp
 | x :: l,[]=>by simp
 | x :: l,y :: m=>by
  simp only [List.map_cons,List.cons.injEq,map_inj hf (l:=l) (m:=m)]
  exact ⟨fun ⟨h1,h2⟩=>⟨hf _ _ h1,h2⟩,fun ⟨h1,h2⟩=>⟨by rw [h1],h2⟩⟩
theorem stF_inj {a b:Stk}:stF a=stF b↔a=b:=by
 constructor
 ·intro h; obtain ⟨a1,a2⟩:=a; obtain ⟨b1,b2⟩:=b; simp [stF] at h; simp [h]
 ·rintro rfl; rfl
theorem stL_inj {l m:List Stk}:stL l=stL m↔l=m:=map_inj fun a b h=>stF_inj.1 h
theorem shF_inj {a b:Shr}:shF a=shF b↔a=b:=by
 constructor
 ·intro h; cases a; cases b; simp [shF] at h; simp [h]
 ·rintro rfl; rfl
theorem duF_inj {a b:Due}:duF a=duF b↔a=b:=by
 constructor
 ·intro h; cases a; cases b; simp [duF] at h; simp [h]
 ·rintro rfl; rfl
theorem duL_inj {l m:List Due}:duL l=duL m↔l=m:=map_inj fun a b h=>duF_inj.1 h
theorem paL_inj {l m:List Pay}:paL l=paL m↔l=m:=map_inj fun a b h=>by cases a; cases b; simp [paF] at h; simp [h]
theorem loL_inj {l m:List Loan}:loL l=loL m↔l=m:=map_inj fun a b h=>by cases a; cases b; simp [loF] at h; simp [h]
theorem natL_inj {l m:List Nat}:natL l=natL m↔l=m:=map_inj fun a b h=>Int.ofNat.inj h
theorem voyF_inj {v w:Voy}:voyF v=voyF w↔v=w:=by
 constructor
 ·intro h; cases v; cases w
  simp [voyF,voyC,ints_inj,stL_inj,loL_inj] at h
  simp [h]
 ·rintro rfl; rfl
theorem bookF_inj {b b':List Int} {n n':List Nat} {c c' d d':Bool} {s s':Nat}:bookF b n c d s=bookF b' n' c' d' s'↔c=c'/\b=b'/\d=d'/\s=s'/\n=n':=by
 simp [bookF,ints_inj,natL_inj,and_assoc]
theorem tokY (ctx:Ctx) (zs:List (List FV)):TOk (pgY ctx zs):=⟨(tok ctx).tt,(tok ctx).ee,(tok ctx).kk,(tok ctx).zv⟩
theorem tokD (ctx:Ctx):TOk (pgD ctx):=⟨(tok ctx).tt,(tok ctx).ee,(tok ctx).kk,(tok ctx).zv⟩
theorem ctxY_ok {ctx:Ctx} (hC:CtxOk (pg ctx)) (h91:H91 ctx) (h65:H65 ctx) (h90:H90 ctx) (zs:List (List FV)):CtxOk (pgY ctx zs) :=
 { c:=hC.c,b:=hC.b,s:=hC.s,l:=fun k d σ args σ' vs h=>inlS_ok (d:=d) (fun x y=>v89 ctx hC h91 h65 h90 x y _ _) h,i:=hC.i,t:=hC.t,h:=hC.h }
theorem ctxD_ok {ctx:Ctx} (hC:CtxOk (pg ctx)) (h91:H91 ctx) (h65:H65 ctx) (h90:H90 ctx) (h92:∀ xs,ctx 92 xs=none):CtxOk (pgD ctx) :=
 { c:=hC.c,b:=hC.b,s:=hC.s,l:=fun k d σ args σ' vs h=>inlD_ok (d:=d) hC h,i:=hC.i,t:=hC.t,h:=fun k bs caps zs h=>itrS_ok (tokY ctx) (ctxY_ok hC h91 h65 h90) h92 h }
noncomputable def F46:Fm where
 k:=46
 α:={ x:Int×Int×Int×Bool×Bool×Bool // True }
 f:=fun ⟨(a,b,c,r1,r2,r3),_⟩=>[(r1,.int .i64 a),(r2,.int .i64 b),(r3,.int .i64 c)]
 g:=fun ⟨(a,b,c,r1,r2,r3),_⟩=>[.fv (.bool (decide (b<=a)&&decide (a<=c)))]
 inj:=fun ⟨(a,b,c,r1,r2,r3),_⟩ ⟨(a',b',c',r1',r2',r3'),_⟩ hh=>by
  simp [ints_inj,stL_inj,voyF_inj,shF_inj,duF_inj,paL_inj,natL_inj,bookF_inj,stF_inj,duL_inj,Int.natCast_inj] at hh
  simp [hh]
 ok:=fun ⟨(a,b,c,r1,r2,r3),_⟩=>v46 _ (fam_ctx []) a b c r1 r2 r3
 en:=enters_of Tryd.func46 (by kernel_rfl)
theorem at46 {L:List Fm} (h:L.find? (fun G=>G.k==46)=some F46):H46 (famCtx L):=fun a b c r1 r2 r3=>fam_at (F:=F46) h ⟨(a,b,c,r1,r2,r3),trivial⟩ rfl rfl
noncomputable def F48:Fm where
 k:=48
 α:={ x:(List Int)×Bool×Bool // (match x with | (l,ro,c)=>(l.length < 2^62)) }
 f:=fun ⟨(l,ro,c),_⟩=>[(ro,.sl c 1 (ints l))]
 g:=fun ⟨(l,ro,c),_⟩=>[.fv (.int .i64 (sumI l))]
 inj:=fun ⟨(l,ro,c),_⟩ ⟨(l',ro',c'),_⟩ hh=>by
  simp [ints_inj,stL_inj,voyF_inj,shF_inj,duF_inj,paL_inj,natL_inj,bookF_inj,stF_inj,duL_inj,Int.natCast_inj] at hh
  simp [hh]
 ok:=fun ⟨(l,ro,c),hl⟩=>v48 _ (fam_ctx []) l ro c hl
 en:=enters_of Tryd.func48 (by kernel_rfl)
theorem at48 {L:List Fm} (h:L.find? (fun G=>G.k==48)=some F48):H48 (famCtx L):=fun l ro c hl=>fam_at (F:=F48) h ⟨(l,ro,c),hl⟩ rfl rfl
noncomputable def F49:Fm where
 k:=49
 α:={ x:(List Stk)×Bool×Bool // (match x with | (l,ro,c)=>(l.length < 2^44)) }
 f:=fun ⟨(l,ro,c),_⟩=>[(ro,.sl c 2 (stL l))]
 g:=fun ⟨(l,ro,c),_⟩=>[.us 1 (ints (wts l))]
 inj:=fun ⟨(l,ro,c),_⟩ ⟨(l',ro',c'),_⟩ hh=>by
  simp [ints_inj,stL_inj,voyF_inj,shF_inj,duF_inj,paL_inj,natL_inj,bookF_inj,stF_inj,duL_inj,Int.natCast_inj] at hh
  simp [hh]
 ok:=fun ⟨(l,ro,c),hl⟩=>v49 _ (fam_ctx []) l ro c hl
 en:=enters_of Tryd.func49 (by kernel_rfl)
theorem at49 {L:List Fm} (h:L.find? (fun G=>G.k==49)=some F49):H49 (famCtx L):=fun l ro c hl=>fam_at (F:=F49) h ⟨(l,ro,c),hl⟩ rfl rfl
noncomputable def F76:Fm where
 k:=76
 α:={ x:Stk×ByteArray×Int×Bool×Bool // True }
 f:=fun ⟨(p,n,w,r1,r2),_⟩=>[(r1,stF p),(r2,.pt [.str n,.int .i64 w] 0)]
 g:=fun ⟨(p,n,w,r1,r2),_⟩=>[.fv (.bool (p.1==n))]
 inj:=fun ⟨(p,n,w,r1,r2),_⟩ ⟨(p',n',w',r1',r2'),_⟩ hh=>by
  simp [ints_inj,stL_inj,voyF_inj,shF_inj,duF_inj,paL_inj,natL_inj,bookF_inj,stF_inj,duL_inj,Int.natCast_inj] at hh
  simp [hh]
 ok:=fun ⟨(p,n,w,r1,r2),_⟩=>v76 _ (fam_ctx []) p n w r1 r2
 en:=enters_of Tryd.func76 (by kernel_rfl)
noncomputable def F93:Fm where
 k:=93
 α:={ x:Stk×ByteArray×Bool×Bool // True }
 f:=fun ⟨(p,n,r1,r2),_⟩=>[(r1,stF p),(r2,.pt [.str n] 0)]
 g:=fun ⟨(p,n,r1,r2),_⟩=>[.fv (.bool (p.1==n))]
 inj:=fun ⟨(p,n,r1,r2),_⟩ ⟨(p',n',r1',r2'),_⟩ hh=>by
  simp [ints_inj,stL_inj,voyF_inj,shF_inj,duF_inj,paL_inj,natL_inj,bookF_inj,stF_inj,duL_inj,Int.natCast_inj] at hh
  simp [hh]
 ok:=fun ⟨(p,n,r1,r2),_⟩=>v93 _ (fam_ctx []) p n r1 r2
 en:=enters_of Tryd.func93 (by kernel_rfl)
noncomputable def F84:Fm where
 k:=84
 α:={ x:ByteArray×ByteArray×Bool×Bool // True }
 f:=fun ⟨(a,b,r1,r2),_⟩=>[(r1,.str a),(r2,.str b)]
 g:=fun ⟨(a,b,r1,r2),_⟩=>[.fv (.int .i64 (cmpB a b))]
 inj:=fun ⟨(a,b,r1,r2),_⟩ ⟨(a',b',r1',r2'),_⟩ hh=>by
  simp [ints_inj,stL_inj,voyF_inj,shF_inj,duF_inj,paL_inj,natL_inj,bookF_inj,stF_inj,duL_inj,Int.natCast_inj] at hh
  simp [hh]
 ok:=fun ⟨(a,b,r1,r2),_⟩=>v84 a b r1 r2
 en:=enters_of Tryd.func84 (by kernel_rfl)
theorem at84 {L:List Fm} (h:L.find? (fun G=>G.k==84)=some F84):H84 (famCtx L):=fun a b r1 r2=>fam_at (F:=F84) h ⟨(a,b,r1,r2),trivial⟩ rfl rfl
noncomputable def F105:Fm where
 k:=105
 α:={ x:Int×Bool // True }
 f:=fun ⟨(a,r),_⟩=>[(r,.int .i64 a)]
 g:=fun ⟨(a,r),_⟩=>[.fv (.bool false)]
 inj:=fun ⟨(a,r),_⟩ ⟨(a',r'),_⟩ hh=>by
  simp [ints_inj,stL_inj,voyF_inj,shF_inj,duF_inj,paL_inj,natL_inj,bookF_inj,stF_inj,duL_inj,Int.natCast_inj] at hh
  simp [hh]
 ok:=fun ⟨(a,r),_⟩=>v105 _ (fam_ctx []) a r
 en:=enters_of Tryd.func105 (by kernel_rfl)
theorem at105 {L:List Fm} (h:L.find? (fun G=>G.k==105)=some F105):H105 (famCtx L):=fun a r=>fam_at (F:=F105) h ⟨(a,r),trivial⟩ rfl rfl
noncomputable def F90:Fm where
 k:=90
 α:={ x:(List Int)×Bool×Bool // (match x with | (l,ro,c)=>(l.length < 2^62)) }
 f:=fun ⟨(l,ro,c),_⟩=>[(ro,.sl c 1 (ints l))]
 g:=fun ⟨(l,ro,c),_⟩=>[.fv (.int .i64 (orI l))]
 inj:=fun ⟨(l,ro,c),_⟩ ⟨(l',ro',c'),_⟩ hh=>by
  simp [ints_inj,stL_inj,voyF_inj,shF_inj,duF_inj,paL_inj,natL_inj,bookF_inj,stF_inj,duL_inj,Int.natCast_inj] at hh
  simp [hh]
 ok:=fun ⟨(l,ro,c),hl⟩=>v90 _ (fam_ctx []) l hl ro c
 en:=enters_of Tryd.func90 (by kernel_rfl)
theorem at90 {L:List Fm} (h:L.find? (fun G=>G.k==90)=some F90):H90 (famCtx L):=fun l ro c hl=>fam_at (F:=F90) h ⟨(l,ro,c),hl⟩ rfl rfl
noncomputable def F141:Fm where
 k:=141
 α:={ x:Voy // True }
 f:=fun ⟨v,_⟩=>[(false,voyF v)]
 g:=fun ⟨v,_⟩=>[.fv (.sl false 2 (stL v.own))]
 inj:=fun ⟨v,_⟩ ⟨v',_⟩ hh=>by
  simp [ints_inj,stL_inj,voyF_inj,shF_inj,duF_inj,paL_inj,natL_inj,bookF_inj,stF_inj,duL_inj,Int.natCast_inj] at hh
  simp [hh]
 ok:=fun ⟨v,_⟩=>v141 _ (fam_ctx []) v
 en:=enters_of Tryd.func141 (by kernel_rfl)
theorem at141 {L:List Fm} (h:L.find? (fun G=>G.k==141)=some F141):H141 (famCtx L):=fun v=>fam_at (F:=F141) h ⟨v,trivial⟩ rfl rfl
noncomputable def F142:Fm where
 k:=142
 α:={ x:Voy // True }
 f:=fun ⟨v,_⟩=>[(false,voyF v)]
 g:=fun ⟨v,_⟩=>[.fv (.sl false 2 (stL v.lend))]
 inj:=fun ⟨v,_⟩ ⟨v',_⟩ hh=>by
  simp [ints_inj,stL_inj,voyF_inj,shF_inj,duF_inj,paL_inj,natL_inj,bookF_inj,stF_inj,duL_inj,Int.natCast_inj] at hh
  simp [hh]
 ok:=fun ⟨v,_⟩=>v142 _ (fam_ctx []) v
 en:=enters_of Tryd.func142 (by kernel_rfl)
theorem at142 {L:List Fm} (h:L.find? (fun G=>G.k==142)=some F142):H142 (famCtx L):=fun v=>fam_at (F:=F142) h ⟨v,trivial⟩ rfl rfl
noncomputable def F143:Fm where
 k:=143
 α:={ x:Voy // True }
 f:=fun ⟨v,_⟩=>[(false,voyF v)]
 g:=fun ⟨v,_⟩=>[.fv (.sl false 2 (stL v.hand))]
 inj:=fun ⟨v,_⟩ ⟨v',_⟩ hh=>by
  simp [ints_inj,stL_inj,voyF_inj,shF_inj,duF_inj,paL_inj,natL_inj,bookF_inj,stF_inj,duL_inj,Int.natCast_inj] at hh
  simp [hh]
 ok:=fun ⟨v,_⟩=>v143 _ (fam_ctx []) v
 en:=enters_of Tryd.func143 (by kernel_rfl)
theorem at143 {L:List Fm} (h:L.find? (fun G=>G.k==143)=some F143):H143 (famCtx L):=fun v=>fam_at (F:=F143) h ⟨v,trivial⟩ rfl rfl
noncomputable def F62:Fm where
 k:=62
 α:={ x:Voy×Bool // True }
 f:=fun ⟨(v,ro),_⟩=>[(ro,voyF v)]
 g:=fun ⟨(v,ro),_⟩=>[.fv (.agg [.int .i64 v.boat,.int .i64 v.nets,.int .i64 v.crew])]
 inj:=fun ⟨(v,ro),_⟩ ⟨(v',ro'),_⟩ hh=>by
  simp [ints_inj,stL_inj,voyF_inj,shF_inj,duF_inj,paL_inj,natL_inj,bookF_inj,stF_inj,duL_inj,Int.natCast_inj] at hh
  simp [hh]
 ok:=fun ⟨(v,ro),_⟩=>v62 _ (fam_ctx []) v ro
 en:=enters_of Tryd.func62 (by kernel_rfl)
theorem at62 {L:List Fm} (h:L.find? (fun G=>G.k==62)=some F62):H62 (famCtx L):=fun v ro=>fam_at (F:=F62) h ⟨(v,ro),trivial⟩ rfl rfl
noncomputable def F61:Fm where
 k:=61
 α:={ x:(List Stk)×Bool×Bool // (match x with | (l,ro,c)=>(l.length<=10)) }
 f:=fun ⟨(l,ro,c),_⟩=>[(ro,.sl c 2 (stL l))]
 g:=fun ⟨(l,ro,c),_⟩=>[.us 2 (stL l)]
 inj:=fun ⟨(l,ro,c),_⟩ ⟨(l',ro',c'),_⟩ hh=>by
  simp [ints_inj,stL_inj,voyF_inj,shF_inj,duF_inj,paL_inj,natL_inj,bookF_inj,stF_inj,duL_inj,Int.natCast_inj] at hh
  simp [hh]
 ok:=fun ⟨(l,ro,c),hl⟩=>v61 _ (fam_ctx []) l ro c hl
 en:=enters_of Tryd.func61 (by kernel_rfl)
theorem at61 {L:List Fm} (h:L.find? (fun G=>G.k==61)=some F61):H61 (famCtx L):=fun l ro c hl=>fam_at (F:=F61) h ⟨(l,ro,c),hl⟩ rfl rfl
noncomputable def F70:Fm where
 k:=70
 α:={ x:(List Int)×(List Nat)×Bool×Bool×Bool×Nat // (match x with | (bal,nums,r1,c1,c2,sz)=>(nums.length<=10)) }
 f:=fun ⟨(bal,nums,r1,c1,c2,sz),_⟩=>[(r1,bookF bal nums c1 c2 sz)]
 g:=fun ⟨(bal,nums,r1,c1,c2,sz),_⟩=>[.fv (.int .i64 ((2^nums.length-1:Nat):Int))]
 inj:=fun ⟨(bal,nums,r1,c1,c2,sz),_⟩ ⟨(bal',nums',r1',c1',c2',sz'),_⟩ hh=>by
  simp [ints_inj,stL_inj,voyF_inj,shF_inj,duF_inj,paL_inj,natL_inj,bookF_inj,stF_inj,duL_inj,Int.natCast_inj] at hh
  simp [hh]
 ok:=fun ⟨(bal,nums,r1,c1,c2,sz),hn⟩=>v70 _ (fam_ctx []) bal nums hn r1 c1 c2 sz
 en:=enters_of Tryd.func70 (by kernel_rfl)
theorem at70 {L:List Fm} (h:L.find? (fun G=>G.k==70)=some F70):H70 (famCtx L):=fun bal nums r1 c1 c2 sz hn=>fam_at (F:=F70) h ⟨(bal,nums,r1,c1,c2,sz),hn⟩ rfl rfl
noncomputable def F86:Fm where
 k:=86
 α:={ x:(List Int)×(List Nat)×Nat×Bool×Bool×Bool×Bool×Nat // (match x with | (bal,nums,set,r1,r2,c1,c2,sz)=>(set < 2^62)/\(nums.length<=10)/\(∀ q∈nums,q < bal.length)/\(nums=[]\/sz=1)) }
 f:=fun ⟨(bal,nums,set,r1,r2,c1,c2,sz),_⟩=>[(r1,bookF bal nums c1 c2 sz),(r2,.int .i64 set)]
 g:=fun ⟨(bal,nums,set,r1,r2,c1,c2,sz),_⟩=>[.fv (.int .i64 (sumS bal nums set))]
 inj:=fun ⟨(bal,nums,set,r1,r2,c1,c2,sz),_⟩ ⟨(bal',nums',set',r1',r2',c1',c2',sz'),_⟩ hh=>by
  simp [ints_inj,stL_inj,voyF_inj,shF_inj,duF_inj,paL_inj,natL_inj,bookF_inj,stF_inj,duL_inj,Int.natCast_inj] at hh
  simp [hh]
 ok:=fun ⟨(bal,nums,set,r1,r2,c1,c2,sz),⟨hs,hn,hm,hz⟩⟩=>v86 _ (fam_ctx []) bal nums set hs hn hm r1 r2 c1 c2 sz hz
 en:=enters_of Tryd.func86 (by kernel_rfl)
theorem at86 {L:List Fm} (h:L.find? (fun G=>G.k==86)=some F86):H86 (famCtx L):=fun bal nums set r1 r2 c1 c2 sz hs hn hm hz=>fam_at (F:=F86) h ⟨(bal,nums,set,r1,r2,c1,c2,sz),⟨hs,hn,hm,hz⟩⟩ rfl rfl
noncomputable def F71:Fm where
 k:=71
 α:={ x:(List Int)×(List Nat)×Nat×Bool×Bool×Bool×Bool×Nat // (match x with | (bal,nums,set,r1,r2,c1,c2,sz)=>(set < 2^62)/\(nums.length<=10)/\(nums=[]\/sz=1)) }
 f:=fun ⟨(bal,nums,set,r1,r2,c1,c2,sz),_⟩=>[(r1,bookF bal nums c1 c2 sz),(r2,.int .i64 set)]
 g:=fun ⟨(bal,nums,set,r1,r2,c1,c2,sz),_⟩=>[.us 1 (ints (natL (memS nums set)))]
 inj:=fun ⟨(bal,nums,set,r1,r2,c1,c2,sz),_⟩ ⟨(bal',nums',set',r1',r2',c1',c2',sz'),_⟩ hh=>by
  simp [ints_inj,stL_inj,voyF_inj,shF_inj,duF_inj,paL_inj,natL_inj,bookF_inj,stF_inj,duL_inj,Int.natCast_inj] at hh
  simp [hh]
 ok:=fun ⟨(bal,nums,set,r1,r2,c1,c2,sz),⟨hs,hn,hz⟩⟩=>v71 _ (fam_ctx []) bal nums set hs hn r1 r2 c1 c2 sz hz
 en:=enters_of Tryd.func71 (by kernel_rfl)
theorem at71 {L:List Fm} (h:L.find? (fun G=>G.k==71)=some F71):H71 (famCtx L):=fun bal nums set r1 r2 c1 c2 sz hs hn hz=>fam_at (F:=F71) h ⟨(bal,nums,set,r1,r2,c1,c2,sz),⟨hs,hn,hz⟩⟩ rfl rfl
noncomputable def F72:Fm where
 k:=72
 α:={ x:(List Int)×(List Nat)×Bool×Bool×Bool // (match x with | (bal,mem,ro,c1,c2)=>(mem.length < 2^44)/\(∀ q∈mem,q < bal.length)) }
 f:=fun ⟨(bal,mem,ro,c1,c2),_⟩=>[(ro,.agg [.sl c1 1 (ints bal),.sl c2 1 (ints (natL mem))])]
 g:=fun ⟨(bal,mem,ro,c1,c2),_⟩=>[.fv (.int .i64 (payF bal mem).1),.fv (.int .i64 (payF bal mem).2)]
 inj:=fun ⟨(bal,mem,ro,c1,c2),_⟩ ⟨(bal',mem',ro',c1',c2'),_⟩ hh=>by
  simp [ints_inj,stL_inj,voyF_inj,shF_inj,duF_inj,paL_inj,natL_inj,bookF_inj,stF_inj,duL_inj,Int.natCast_inj] at hh
  simp [hh]
 ok:=fun ⟨(bal,mem,ro,c1,c2),⟨hl,hm⟩⟩=>v72 _ (fam_ctx []) bal mem hl hm ro c1 c2
 en:=enters_of Tryd.func72 (by kernel_rfl)
theorem at72 {L:List Fm} (h:L.find? (fun G=>G.k==72)=some F72):H72 (famCtx L):=fun bal mem ro c1 c2 hl hm=>fam_at (F:=F72) h ⟨(bal,mem,ro,c1,c2),⟨hl,hm⟩⟩ rfl rfl
noncomputable def K0:List Fm:=[F46,F48,F49,F76,F93,F84,F105,F90,F141,F142,F143,F62,F61,F70,F86,F71,F72]
noncomputable def F65:Fm where
 k:=65
 α:={ x:ByteArray×ByteArray×Bool×Bool // True }
 f:=fun ⟨(a,b,r1,r2),_⟩=>[(r1,.str a),(r2,.str b)]
 g:=fun ⟨(a,b,r1,r2),_⟩=>[.fv (.int .i64 (cmpB a b))]
 inj:=fun ⟨(a,b,r1,r2),_⟩ ⟨(a',b',r1',r2'),_⟩ hh=>by
  simp [ints_inj,stL_inj,voyF_inj,shF_inj,duF_inj,paL_inj,natL_inj,bookF_inj,stF_inj,duL_inj,Int.natCast_inj] at hh
  simp [hh]
 ok:=fun ⟨(a,b,r1,r2),_⟩=>v65 _ (fam_ctx K0) (at84 rfl) a b r1 r2
 en:=enters_of Tryd.func65 (by kernel_rfl)
theorem at65 {L:List Fm} (h:L.find? (fun G=>G.k==65)=some F65):H65 (famCtx L):=fun a b r1 r2=>fam_at (F:=F65) h ⟨(a,b,r1,r2),trivial⟩ rfl rfl
noncomputable def F91:Fm where
 k:=91
 α:={ x:Int×Int×Bool×Bool // True }
 f:=fun ⟨(a,b,r1,r2),_⟩=>[(r1,.int .i64 a),(r2,.int .i64 b)]
 g:=fun ⟨(a,b,r1,r2),_⟩=>[.fv (.int .i64 (cmpI a b))]
 inj:=fun ⟨(a,b,r1,r2),_⟩ ⟨(a',b',r1',r2'),_⟩ hh=>by
  simp [ints_inj,stL_inj,voyF_inj,shF_inj,duF_inj,paL_inj,natL_inj,bookF_inj,stF_inj,duL_inj,Int.natCast_inj] at hh
  simp [hh]
 ok:=fun ⟨(a,b,r1,r2),_⟩=>v91 _ (fam_ctx K0) (at105 rfl) a b r1 r2
 en:=enters_of Tryd.func91 (by kernel_rfl)
theorem at91 {L:List Fm} (h:L.find? (fun G=>G.k==91)=some F91):H91 (famCtx L):=fun a b r1 r2=>fam_at (F:=F91) h ⟨(a,b,r1,r2),trivial⟩ rfl rfl
noncomputable def F74:Fm where
 k:=74
 α:={ x:ByteArray×Bool // True }
 f:=fun ⟨(s,ro),_⟩=>[(ro,.str s)]
 g:=fun ⟨(s,ro),_⟩=>[.fv (.bool (nameOk s))]
 inj:=fun ⟨(s,ro),_⟩ ⟨(s',ro'),_⟩ hh=>by
  simp [ints_inj,stL_inj,voyF_inj,shF_inj,duF_inj,paL_inj,natL_inj,bookF_inj,stF_inj,duL_inj,Int.natCast_inj] at hh
  simp [hh]
 ok:=fun ⟨(s,ro),_⟩=>v74 _ (fam_ctx K0) (at46 rfl) s ro
 en:=enters_of Tryd.func74 (by kernel_rfl)
theorem at74 {L:List Fm} (h:L.find? (fun G=>G.k==74)=some F74):H74 (famCtx L):=fun s ro=>fam_at (F:=F74) h ⟨(s,ro),trivial⟩ rfl rfl
noncomputable def F67:Fm where
 k:=67
 α:={ x:(List Int)×Bool×Bool // (match x with | (l,ro,c)=>(l.length < 2^44)) }
 f:=fun ⟨(l,ro,c),_⟩=>[(ro,.sl c 1 (ints l))]
 g:=fun ⟨(l,ro,c),_⟩=>[.fv (.bool (balances l))]
 inj:=fun ⟨(l,ro,c),_⟩ ⟨(l',ro',c'),_⟩ hh=>by
  simp [ints_inj,stL_inj,voyF_inj,shF_inj,duF_inj,paL_inj,natL_inj,bookF_inj,stF_inj,duL_inj,Int.natCast_inj] at hh
  simp [hh]
 ok:=fun ⟨(l,ro,c),hl⟩=>v67 _ (fam_ctx K0) (at46 rfl) (at48 rfl) l hl ro c
 en:=enters_of Tryd.func67 (by kernel_rfl)
theorem at67 {L:List Fm} (h:L.find? (fun G=>G.k==67)=some F67):H67 (famCtx L):=fun l ro c hl=>fam_at (F:=F67) h ⟨(l,ro,c),hl⟩ rfl rfl
noncomputable def F87:Fm where
 k:=87
 α:={ x:Bool×ByteArray×Int×(List Stk)×Bool×Bool×Bool // (match x with | (q,n,w,l,ro,rf,c)=>(l.length < 2^44)) }
 f:=fun ⟨(q,n,w,l,ro,rf,c),_⟩=>[(ro,.sl c 2 (stL l)),(rf,.fn (.func (if q then 76 else 93)) [] [.pt (if q then [.str n,.int .i64 w] else [.str n]) 0])]
 g:=fun ⟨(q,n,w,l,ro,rf,c),_⟩=>[.fv (.int .i64 (idx (fun p:Stk=>p.1==n) l))]
 inj:=fun ⟨(q,n,w,l,ro,rf,c),_⟩ ⟨(q',n',w',l',ro',rf',c'),_⟩ hh=>by
  cases q<;>cases q'<;>simp [ints_inj,stL_inj,voyF_inj,shF_inj,duF_inj,paL_inj,natL_inj,bookF_inj,stF_inj,duL_inj,Int.natCast_inj] at hh<;>simp [hh]
 ok:=fun ⟨(q,n,w,l,ro,rf,c),hl⟩=>by
  cases q
  ·exact v87 _ (fam_ctx K0) 93 _ l hl ro rf c _ fun x _ r=>fam_at (F:=F93) rfl ⟨(x,n,r,rf),trivial⟩ rfl rfl
  ·exact v87 _ (fam_ctx K0) 76 _ l hl ro rf c _ fun x _ r=>fam_at (F:=F76) rfl ⟨(x,n,w,r,rf),trivial⟩ rfl rfl
 en:=enters_of Tryd.func87 (by kernel_rfl)
noncomputable def K1:List Fm:=[F46,F48,F49,F76,F93,F84,F105,F90,F141,F142,F143,F62,F61,F70,F86,F71,F72,F65,F91,F74,F67,F87]
noncomputable def F89:Fm where
 k:=89
 α:={ x:Shr×Shr×Bool×Bool // True }
 f:=fun ⟨(x,y,r1,r2),_⟩=>[(r1,shF x),(r2,shF y)]
 g:=fun ⟨(x,y,r1,r2),_⟩=>[.fv (.int .i64 (cmpS x y))]
 inj:=fun ⟨(x,y,r1,r2),_⟩ ⟨(x',y',r1',r2'),_⟩ hh=>by
  simp [ints_inj,stL_inj,voyF_inj,shF_inj,duF_inj,paL_inj,natL_inj,bookF_inj,stF_inj,duL_inj,Int.natCast_inj] at hh
  simp [hh]
 ok:=fun ⟨(x,y,r1,r2),_⟩=>v89 _ (fam_ctx K1) (at91 rfl) (at65 rfl) (at90 rfl) x y r1 r2
 en:=enters_of Tryd.func89 (by kernel_rfl)
noncomputable def F64:Fm where
 k:=64
 α:={ x:Due×Due×Bool×Bool // True }
 f:=fun ⟨(x,y,r1,r2),_⟩=>[(r1,duF x),(r2,duF y)]
 g:=fun ⟨(x,y,r1,r2),_⟩=>[.fv (.int .i64 (cmpD x y))]
 inj:=fun ⟨(x,y,r1,r2),_⟩ ⟨(x',y',r1',r2'),_⟩ hh=>by
  simp [ints_inj,stL_inj,voyF_inj,shF_inj,duF_inj,paL_inj,natL_inj,bookF_inj,stF_inj,duL_inj,Int.natCast_inj] at hh
  simp [hh]
 ok:=fun ⟨(x,y,r1,r2),_⟩=>v64 _ (fam_ctx K1) (at65 rfl) x y r1 r2
 en:=enters_of Tryd.func64 (by kernel_rfl)
noncomputable def F75:Fm where
 k:=75
 α:={ x:ByteArray×Int×(List Stk)×Bool×Bool×Bool // (match x with | (n,w,l,ro,rf,c)=>(l.length < 2^44)) }
 f:=fun ⟨(n,w,l,ro,rf,c),_⟩=>[(ro,.sl c 2 (stL l)),(rf,.fn (.func 76) [] [.pt [.str n,.int .i64 w] 0])]
 g:=fun ⟨(n,w,l,ro,rf,c),_⟩=>[.fv (.bool (l.any fun p=>p.1==n))]
 inj:=fun ⟨(n,w,l,ro,rf,c),_⟩ ⟨(n',w',l',ro',rf',c'),_⟩ hh=>by
  simp [ints_inj,stL_inj,voyF_inj,shF_inj,duF_inj,paL_inj,natL_inj,bookF_inj,stF_inj,duL_inj,Int.natCast_inj] at hh
  simp [hh]
 ok:=fun ⟨(n,w,l,ro,rf,c),hl⟩=>v75 _ (fam_ctx K1) 76 _ _ (fun l ro rf c hl=>fam_at (F:=F87) rfl ⟨(true,n,w,l,ro,rf,c),hl⟩ rfl rfl) l hl ro rf c
 en:=enters_of Tryd.func75 (by kernel_rfl)
theorem at75 {L:List Fm} (h:L.find? (fun G=>G.k==75)=some F75):H75 (famCtx L):=fun n w l ro rf c hl=>fam_at (F:=F75) h ⟨(n,w,l,ro,rf,c),hl⟩ rfl rfl
noncomputable def F80:Fm where
 k:=80
 α:={ x:Voy×ByteArray×Bool×Bool // (match x with | (v,n,r1,r2)=>(v.lend.length < 2^44)) }
 f:=fun ⟨(v,n,r1,r2),_⟩=>[(r1,voyF v),(r2,.str n)]
 g:=fun ⟨(v,n,r1,r2),_⟩=>[.fv (.int .i64 (placeF v.lend n))]
 inj:=fun ⟨(v,n,r1,r2),_⟩ ⟨(v',n',r1',r2'),_⟩ hh=>by
  simp [ints_inj,stL_inj,voyF_inj,shF_inj,duF_inj,paL_inj,natL_inj,bookF_inj,stF_inj,duL_inj,Int.natCast_inj] at hh
  simp [hh]
 ok:=fun ⟨(v,n,r1,r2),hl⟩=>v80 _ (fam_ctx K1) (fun n l ro rf c hl=>fam_at (F:=F87) rfl ⟨(false,n,0,l,ro,rf,c),hl⟩ rfl rfl) v n r1 r2 hl
 en:=enters_of Tryd.func80 (by kernel_rfl)
theorem at80 {L:List Fm} (h:L.find? (fun G=>G.k==80)=some F80):H80 (famCtx L):=fun v n r1 r2 hl=>fam_at (F:=F80) h ⟨(v,n,r1,r2),hl⟩ rfl rfl
noncomputable def F42:Fm where
 k:=42
 α:={ x:(List Int)×(List Pay)×Bool×Bool×Bool×Bool // (match x with | (bal,l,r0,r1,c0,c1)=>(bal.length < 2^44)/\(l.length < 2^44)) }
 f:=fun ⟨(bal,l,r0,r1,c0,c1),_⟩=>[(r0,.sl c0 1 (ints bal)),(r1,.sl c1 3 (paL l))]
 g:=fun ⟨(bal,l,r0,r1,c0,c1),_⟩=>[.fv (.bool (isClearF bal l).1),.fv (.int .i64 (isClearF bal l).2)]
 inj:=fun ⟨(bal,l,r0,r1,c0,c1),_⟩ ⟨(bal',l',r0',r1',c0',c1'),_⟩ hh=>by
  simp [ints_inj,stL_inj,voyF_inj,shF_inj,duF_inj,paL_inj,natL_inj,bookF_inj,stF_inj,duL_inj,Int.natCast_inj] at hh
  simp [hh]
 ok:=fun ⟨(bal,l,r0,r1,c0,c1),⟨hb,hl⟩⟩=>v42 _ (fam_ctx K1) (at46 rfl) (at67 rfl) bal l hb hl r0 r1 c0 c1
 en:=enters_of Tryd.func42 (by kernel_rfl)
theorem at42 {L:List Fm} (h:L.find? (fun G=>G.k==42)=some F42):H42 (famCtx L):=fun bal l r0 r1 c0 c1 hb hl=>fam_at (F:=F42) h ⟨(bal,l,r0,r1,c0,c1),⟨hb,hl⟩⟩ rfl rfl
noncomputable def F37:Fm where
 k:=37
 α:={ x:(List Int)×Bool×Bool // (match x with | (bal,r0,c0)=>(bal.length < 2^44)) }
 f:=fun ⟨(bal,r0,c0),_⟩=>[(r0,.sl c0 1 (ints bal))]
 g:=fun ⟨(bal,r0,c0),_⟩=>[.us 1 (grL (groupsF bal).1),.fv (.int .i64 (groupsF bal).2)]
 inj:=fun ⟨(bal,r0,c0),_⟩ ⟨(bal',r0',c0'),_⟩ hh=>by
  simp [ints_inj,stL_inj,voyF_inj,shF_inj,duF_inj,paL_inj,natL_inj,bookF_inj,stF_inj,duL_inj,Int.natCast_inj] at hh
  simp [hh]
 ok:=fun ⟨(bal,r0,c0),hb⟩=>v37 _ (fam_ctx K1) (at67 rfl) (at70 rfl) (at71 rfl) (at86 rfl) (fun xs=>fam_none rfl) (fun xs=>fam_none rfl) bal r0 c0 hb
 en:=enters_of Tryd.func37 (by kernel_rfl)
theorem at37 {L:List Fm} (h:L.find? (fun G=>G.k==37)=some F37):H37 (famCtx L):=fun bal r0 c0 hb=>fam_at (F:=F37) h ⟨(bal,r0,c0),hb⟩ rfl rfl
noncomputable def K2:List Fm:=[F46,F48,F49,F76,F93,F84,F105,F90,F141,F142,F143,F62,F61,F70,F86,F71,F72,F65,F91,F74,F67,F87,F89,F64,F75,F80,F42,F37]
noncomputable def F47:Fm where
 k:=47
 α:={ x:(List Stk)×Bool×Bool // (match x with | (l,ro,c)=>(l.length < 2^44)) }
 f:=fun ⟨(l,ro,c),_⟩=>[(ro,.sl c 2 (stL l))]
 g:=fun ⟨(l,ro,c),_⟩=>[.fv (.bool (stakesOk l))]
 inj:=fun ⟨(l,ro,c),_⟩ ⟨(l',ro',c'),_⟩ hh=>by
  simp [ints_inj,stL_inj,voyF_inj,shF_inj,duF_inj,paL_inj,natL_inj,bookF_inj,stF_inj,duL_inj,Int.natCast_inj] at hh
  simp [hh]
 ok:=fun ⟨(l,ro,c),hl⟩=>v47 _ (fam_ctx K2) (at46 rfl) (at74 rfl) (at75 rfl) l ro c hl
 en:=enters_of Tryd.func47 (by kernel_rfl)
theorem at47 {L:List Fm} (h:L.find? (fun G=>G.k==47)=some F47):H47 (famCtx L):=fun l ro c hl=>fam_at (F:=F47) h ⟨(l,ro,c),hl⟩ rfl rfl
noncomputable def F50:Fm where
 k:=50
 α:={ x:Int×(List Stk)×Bool×Bool×Bool // (match x with | (all,l,r0,ro,c)=>(DivOk all l)) }
 f:=fun ⟨(all,l,r0,ro,c),_⟩=>[(r0,.int .i64 all),(ro,.sl c 2 (stL l))]
 g:=fun ⟨(all,l,r0,ro,c),_⟩=>[.us 1 (ints (divF all l))]
 inj:=fun ⟨(all,l,r0,ro,c),_⟩ ⟨(all',l',r0',ro',c'),_⟩ hh=>by
  simp [ints_inj,stL_inj,voyF_inj,shF_inj,duF_inj,paL_inj,natL_inj,bookF_inj,stF_inj,duL_inj,Int.natCast_inj] at hh
  simp [hh]
 ok:=fun ⟨(all,l,r0,ro,c),hd⟩=>v50' _ (tokD _) (ctxD_ok (fam_ctx K2) (at91 rfl) (at65 rfl) (at90 rfl) (fun xs=>fam_none rfl)) (at48 rfl) (at49 rfl) (fun xs=>fam_none rfl) r0 ro c hd
 en:=enters_of Tryd.func50 (by kernel_rfl)
theorem at50 {L:List Fm} (h:L.find? (fun G=>G.k==50)=some F50):H50 (famCtx L):=fun all l r0 ro c hd=>fam_at (F:=F50) h ⟨(all,l,r0,ro,c),hd⟩ rfl rfl
noncomputable def F55:Fm where
 k:=55
 α:={ v:Voy // (v.lend.length<=10)/\(∀ x∈v.lend,0<=x.2/\x.2<=1000)/\(v.loans.length < 2^44) }
 f:=fun ⟨v,_⟩=>[(false,voyF v)]
 g:=fun ⟨v,_⟩=>claimsR (claimsF v)
 inj:=fun ⟨v,_⟩ ⟨v',_⟩ hh=>by
  simp [ints_inj,stL_inj,voyF_inj,shF_inj,duF_inj,paL_inj,natL_inj,bookF_inj,stF_inj,duL_inj,Int.natCast_inj] at hh
  simp [hh]
 ok:=fun ⟨v,⟨h1,h2,h3⟩⟩=>v55 _ (fam_ctx K2) (at46 rfl) (at49 rfl) (at80 rfl) v h1 h2 h3
 en:=enters_of Tryd.func55 (by kernel_rfl)
theorem at55 {L:List Fm} (h:L.find? (fun G=>G.k==55)=some F55):H55 (famCtx L):=fun v h1 h2 h3=>fam_at (F:=F55) h ⟨v,⟨h1,h2,h3⟩⟩ rfl rfl
noncomputable def F41:Fm where
 k:=41
 α:={ x:(List Int)×Bool×Bool // (match x with | (bal,r0,c0)=>(bal.length < 2^44)) }
 f:=fun ⟨(bal,r0,c0),_⟩=>[(r0,.sl c0 1 (ints bal))]
 g:=fun ⟨(bal,r0,c0),_⟩=>[.us 3 (paL (clearF bal).1),.fv (.int .i64 (clearF bal).2)]
 inj:=fun ⟨(bal,r0,c0),_⟩ ⟨(bal',r0',c0'),_⟩ hh=>by
  simp [ints_inj,stL_inj,voyF_inj,shF_inj,duF_inj,paL_inj,natL_inj,bookF_inj,stF_inj,duL_inj,Int.natCast_inj] at hh
  simp [hh]
 ok:=fun ⟨(bal,r0,c0),hb⟩=>v41 _ (fam_ctx K2) (at37 rfl) (at72 rfl) bal r0 c0 hb
 en:=enters_of Tryd.func41 (by kernel_rfl)
theorem at41 {L:List Fm} (h:L.find? (fun G=>G.k==41)=some F41):H41 (famCtx L):=fun bal r0 c0 hb=>fam_at (F:=F41) h ⟨(bal,r0,c0),hb⟩ rfl rfl
noncomputable def K3:List Fm:=[F46,F48,F49,F76,F93,F84,F105,F90,F141,F142,F143,F62,F61,F70,F86,F71,F72,F65,F91,F74,F67,F87,F89,F64,F75,F80,F42,F37,F47,F50,F55,F41]
noncomputable def F15:Fm where
 k:=15
 α:={ x:Int×(List Stk)×Bool×Bool×Bool // (match x with | (all,l,r0,ro,c)=>(l.length < 2^44)) }
 f:=fun ⟨(all,l,r0,ro,c),_⟩=>[(r0,.int .i64 all),(ro,.sl c 2 (stL l))]
 g:=fun ⟨(all,l,r0,ro,c),_⟩=>[.us 1 (ints (divideF all l).1),.fv (.int .i64 (divideF all l).2)]
 inj:=fun ⟨(all,l,r0,ro,c),_⟩ ⟨(all',l',r0',ro',c'),_⟩ hh=>by
  simp [ints_inj,stL_inj,voyF_inj,shF_inj,duF_inj,paL_inj,natL_inj,bookF_inj,stF_inj,duL_inj,Int.natCast_inj] at hh
  simp [hh]
 ok:=fun ⟨(all,l,r0,ro,c),hl⟩=>v15 _ (fam_ctx K3) (at46 rfl) (at47 rfl) (at48 rfl) (at49 rfl) (at50 rfl) all l r0 ro c hl
 en:=enters_of Tryd.func15 (by kernel_rfl)
def H15 (ctx:Ctx):Prop:=∀ (all:Int) (l:List Stk) (r0:Bool) (ro:Bool) (c:Bool),(l.length < 2^44)->ctx 15 [(r0,.int .i64 all),(ro,.sl c 2 (stL l))]=some [.us 1 (ints (divideF all l).1),.fv (.int .i64 (divideF all l).2)]
theorem at15 {L:List Fm} (h:L.find? (fun G=>G.k==15)=some F15):H15 (famCtx L):=fun all l r0 ro c hl=>fam_at (F:=F15) h ⟨(all,l,r0,ro,c),hl⟩ rfl rfl
noncomputable def F57:Fm where
 k:=57
 α:={ v:Voy // (Small v) }
 f:=fun ⟨v,_⟩=>[(false,voyF v)]
 g:=fun ⟨v,_⟩=>[.fv (.bool (voyOk v))]
 inj:=fun ⟨v,_⟩ ⟨v',_⟩ hh=>by
  simp [ints_inj,stL_inj,voyF_inj,shF_inj,duF_inj,paL_inj,natL_inj,bookF_inj,stF_inj,duL_inj,Int.natCast_inj] at hh
  simp [hh]
 ok:=fun ⟨v,hv⟩=>v57 _ (fam_ctx K3) (at46 rfl) (at47 rfl) (at48 rfl) (at49 rfl) (at62 rfl) (at141 rfl) (at142 rfl) (at143 rfl) v hv
 en:=enters_of Tryd.func57 (by kernel_rfl)
theorem at57 {L:List Fm} (h:L.find? (fun G=>G.k==57)=some F57):H57 (famCtx L):=fun v hv=>fam_at (F:=F57) h ⟨v,hv⟩ rfl rfl
noncomputable def F59:Fm where
 k:=59
 α:={ v:Voy // (VoyOk v) }
 f:=fun ⟨v,_⟩=>[(false,voyF v)]
 g:=fun ⟨v,_⟩=>[.us 1 (ints (threeF v))]
 inj:=fun ⟨v,_⟩ ⟨v',_⟩ hh=>by
  simp [ints_inj,stL_inj,voyF_inj,shF_inj,duF_inj,paL_inj,natL_inj,bookF_inj,stF_inj,duL_inj,Int.natCast_inj] at hh
  simp [hh]
 ok:=fun ⟨v,hv⟩=>v59 _ (fam_ctx K3) (at48 rfl) (at50 rfl) (at62 rfl) v hv
 en:=enters_of Tryd.func59 (by kernel_rfl)
theorem at59 {L:List Fm} (h:L.find? (fun G=>G.k==59)=some F59):H59 (famCtx L):=fun v hv=>fam_at (F:=F59) h ⟨v,hv⟩ rfl rfl
noncomputable def K4:List Fm:=[F46,F48,F49,F76,F93,F84,F105,F90,F141,F142,F143,F62,F61,F70,F86,F71,F72,F65,F91,F74,F67,F87,F89,F64,F75,F80,F42,F37,F47,F50,F55,F41,F15,F57,F59]
noncomputable def F21:Fm where
 k:=21
 α:={ v:Voy // (Small v) }
 f:=fun ⟨v,_⟩=>[(false,voyF v)]
 g:=fun ⟨v,_⟩=>[.fv (.int .i64 (checkF v))]
 inj:=fun ⟨v,_⟩ ⟨v',_⟩ hh=>by
  simp [ints_inj,stL_inj,voyF_inj,shF_inj,duF_inj,paL_inj,natL_inj,bookF_inj,stF_inj,duL_inj,Int.natCast_inj] at hh
  simp [hh]
 ok:=fun ⟨v,hv⟩=>v21 _ (fam_ctx K4) (at55 rfl) (at57 rfl) v hv
 en:=enters_of Tryd.func21 (by kernel_rfl)
theorem at21 {L:List Fm} (h:L.find? (fun G=>G.k==21)=some F21):H21 (famCtx L):=fun v hv=>fam_at (F:=F21) h ⟨v,hv⟩ rfl rfl
noncomputable def K5:List Fm:=[F46,F48,F49,F76,F93,F84,F105,F90,F141,F142,F143,F62,F61,F70,F86,F71,F72,F65,F91,F74,F67,F87,F89,F64,F75,F80,F42,F37,F47,F50,F55,F41,F15,F57,F59,F21]
noncomputable def F19:Fm where
 k:=19
 α:={ v:Voy // (Small v) }
 f:=fun ⟨v,_⟩=>[(false,voyF v)]
 g:=fun ⟨v,_⟩=>[.us 1 (ints (allClaims v)),.fv (.int .i64 (checkF v))]
 inj:=fun ⟨v,_⟩ ⟨v',_⟩ hh=>by
  simp [ints_inj,stL_inj,voyF_inj,shF_inj,duF_inj,paL_inj,natL_inj,bookF_inj,stF_inj,duL_inj,Int.natCast_inj] at hh
  simp [hh]
 ok:=fun ⟨v,hv⟩=>v19 _ (fam_ctx K5) (at21 rfl) (at55 rfl) v hv
 en:=enters_of Tryd.func19 (by kernel_rfl)
theorem at19 {L:List Fm} (h:L.find? (fun G=>G.k==19)=some F19):H19 (famCtx L):=fun v hv=>fam_at (F:=F19) h ⟨v,hv⟩ rfl rfl
noncomputable def F23:Fm where
 k:=23
 α:={ v:Voy // (Small v) }
 f:=fun ⟨v,_⟩=>[(false,voyF v)]
 g:=fun ⟨v,_⟩=>[.fv (.int .i64 ((partsR v).getD 0 0)),.fv (.int .i64 ((partsR v).getD 1 0)),.fv (.int .i64 ((partsR v).getD 2 0)),.fv (.int .i64 (checkF v))]
 inj:=fun ⟨v,_⟩ ⟨v',_⟩ hh=>by
  simp [ints_inj,stL_inj,voyF_inj,shF_inj,duF_inj,paL_inj,natL_inj,bookF_inj,stF_inj,duL_inj,Int.natCast_inj] at hh
  simp [hh]
 ok:=fun ⟨v,hv⟩=>v23 _ (fam_ctx K5) (at21 rfl) (at59 rfl) v hv
 en:=enters_of Tryd.func23 (by kernel_rfl)
theorem at23 {L:List Fm} (h:L.find? (fun G=>G.k==23)=some F23):H23 (famCtx L):=fun v hv=>fam_at (F:=F23) h ⟨v,hv⟩ rfl rfl
noncomputable def F25:Fm where
 k:=25
 α:={ v:Voy // (Small v) }
 f:=fun ⟨v,_⟩=>[(false,voyF v)]
 g:=fun ⟨v,_⟩=>[.us 4 (duL (sharesF v)),.fv (.int .i64 (checkF v))]
 inj:=fun ⟨v,_⟩ ⟨v',_⟩ hh=>by
  simp [ints_inj,stL_inj,voyF_inj,shF_inj,duF_inj,paL_inj,natL_inj,bookF_inj,stF_inj,duL_inj,Int.natCast_inj] at hh
  simp [hh]
 ok:=fun ⟨v,hv⟩=>v25 _ (fam_ctx K5) (at65 rfl) (at21 rfl) (at59 rfl) (at61 rfl) (at55 rfl) (at62 rfl) (at50 rfl) (at141 rfl) (at142 rfl) (at143 rfl) (fun xs=>fam_none rfl) v hv
 en:=enters_of Tryd.func25 (by kernel_rfl)
theorem at25 {L:List Fm} (h:L.find? (fun G=>G.k==25)=some F25):H25 (famCtx L):=fun v hv=>fam_at (F:=F25) h ⟨v,hv⟩ rfl rfl
noncomputable def KS:List Fm:=[F46,F48,F49,F76,F93,F84,F105,F90,F141,F142,F143,F62,F61,F70,F86,F71,F72,F65,F91,F74,F67,F87,F89,F64,F75,F80,F42,F37,F47,F50,F55,F41,F15,F57,F59,F21,F19,F23,F25]
end Go.Proofs.YtejodhjhddnbeaaDoor.E
