/-
  What is said of single sums, voyages and balances (ShareKnown), a closed statement. Conditions: none.
-/
import Derived.Test.YtejodhjhddnbeaaDoorZN2
import Derived.Test.YtejodhjhddnbeaaDoorZ07
set_option linter.unusedVariables false
set_option linter.unusedSimpArgs false
namespace Go.Proofs.YtejodhjhddnbeaaDoor.E
open Go Go.RowKit
noncomputable def pgK:Pg:=pg ctxK
theorem tokK:TOk pgK:=⟨(tok ctxK).tt,(tok ctxK).ee,(tok ctxK).kk,(tok ctxK).zv⟩
theorem ctxK0:CtxOk pgK :=
 { c:=fun k xs res h=>ctxK_ok h,b:=fun k cells xs res h=>(by cases h),s:=fun k sz xs ys h=>(by cases h),l:=fun k d σ args σ' vs h=>(by cases h),i:=fun k caps xs h=>(by cases h),t:=fun k caps xs i h=>(by cases h) }
noncomputable def tabK:FnTab:=[(44,⟨Tryd.f44,L44,T44,false,false,[]⟩)]
theorem tabK_ok:TabOk Tryd.prog tabK:=⟨⟨Tryd.func44,by kernel_rfl⟩,trivial⟩
noncomputable def gK:Pg:=evG pgK tabK 1
theorem gK_ok:CtxOk gK:=evG_ok tokK ctxK0 rfl mixed tabK_ok 1
noncomputable def FI14:FnI:=⟨Tryd.f14,L14,T14,true,false,[]⟩
theorem known_eval:pureF gK FI14 []=some [.fv (.bool true)]:=by kernel_rfl
theorem v14:Valid Tryd.prog 14 [] [.fv (.bool true)]:=by
 obtain ⟨e1,e2,e3,e4,e5⟩:=evG_P pgK tabK 1
 have e:gK.P=Tryd.prog:=e1
 have:=pureF_sound (G:=gK) (k:=14) (f:=FI14) (evG_T tokK 1) gK_ok (e4.trans rfl) (e▸mixed) (e▸Tryd.func14) known_eval
 exact e▸this
end Go.Proofs.YtejodhjhddnbeaaDoor.E
