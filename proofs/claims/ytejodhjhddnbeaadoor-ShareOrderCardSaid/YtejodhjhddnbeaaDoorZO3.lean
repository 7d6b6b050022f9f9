/-
  The theorem of the order (ShareOrder): in whatever order owners, lenders, hands, costs and loans are told, each name gets the same, for any voyage; numbers choose the order. Conditions: none.
-/
import Derived.Test.YtejodhjhddnbeaaDoorCards
import Derived.Test.YtejodhjhddnbeaaDoorTie
import Derived.Test.YtejodhjhddnbeaaDoorZ24
import Derived.Test.YtejodhjhddnbeaaDoorZ25
import Derived.Test.YtejodhjhddnbeaaDoorZO2
import Derived.SevenTiedAt
set_option linter.unusedVariables false
set_option linter.unusedSimpArgs false
namespace Go.Proofs.YtejodhjhddnbeaaDoor.E
open Go Go.RowKit
namespace Order
noncomputable def F36 : Fm where
  k := 36
  α := { x : (List Stk) × Int × Bool × Bool × Bool // (match x with | (l,n,ro,r1,c) => (l.length ≤ 10)) }
  f := fun ⟨(l,n,ro,r1,c),_⟩ => [(ro,.sl c 2 (stL l)),(r1,.int .i64 n)]
  g := fun ⟨(l,n,ro,r1,c),_⟩ => [.us 2 (stL (roundF l n l.length))]
  inj := fun ⟨(l,n,ro,r1,c),_⟩ ⟨(l',n',ro',r1',c'),_⟩ hh => by
    simp [ints_inj,stL_inj,voyF_inj,shF_inj,duF_inj,paL_inj,natL_inj,bookF_inj,stF_inj,duL_inj,Int.natCast_inj] at hh
    simp [hh]
  ok := fun ⟨(l,n,ro,r1,c),hl⟩ => v36 _ (fam_ctx KX) (at32 rfl) l n hl ro r1 c
  en := enters_of Tryd.func36 (by kernel_rfl)
theorem at36 {L : List Fm} (h : L.find? (fun G => G.k == 36) = some F36) : H36 (famCtx L) := fun l n ro r1 c hl => fam_at (F := F36) h ⟨(l,n,ro,r1,c),hl⟩ rfl rfl
noncomputable def KO : List Fm := F36 :: KX
theorem order_args {xs : List FV} (h : ArgsT Tryd.prog 6 [32,56] xs) : Valid Tryd.prog 9 (xs.map fun x => (false,x)) [.fv (.bool true)] := by
  obtain ⟨fs,ys,h0,h1,h2⟩ := h
  obtain ⟨us,h6,h7⟩ := ArgsT_one h2
  obtain ⟨v,hf,hv⟩ := isVoy (n := 2) h1
  obtain ⟨a,b,c,d,hu⟩ := isFour (n := 4) h7
  rw [h0,h6,hf,hu]
  exact v9 _ (fam_ctx KO) (at18 rfl) (at25x rfl) (at27 rfl) (at32 rfl) (at33 rfl) (at36 rfl) v hv a b c d
set_option maxRecDepth 100000 in
theorem order_lifted (os : Os) (started : os.Started) (H : Type) (enc : TypeId × Value → H) :
    ReturnsInHanded {} Tryd.checked os 9 .any (fun w args => (Rows.shareOrderSpec.pre enc Tryd.prog Tryd.f9 [] false w args ∧ laidMetH Tryd.prog laidP w) ∧ sizedMet enc Tryd.prog Tryd.f9 (OpenSpec.ofChange Rows.shareOrderSpec) false w args)
      (Rows.shareOrderSpec.post enc Tryd.prog Tryd.f9 false true false false) := by
  refine returnsInHanded_of_change_and (C := Tryd.checked) (X := fun w _ => laidMetH Tryd.prog laidP w) (fun _ _ _ hh h => h.of_heap hh) ownP started (by kernel_rfl) Tryd.func9
    (ChangeSpec.witness_shaped (enc := enc) (C := Tryd.checked) (os := os) (X := fun w _ => laidMetH Tryd.prog laidP w) false (World.doorLaid Tryd.prog 2000 os) #[.agg #[.int .i64 0,.slice none 0 0,.int .i64 0,.int .i64 0,.int .i64 0,.slice none 0 0,.slice none 0 0,.slice none 0 0,.slice none 0 0],.agg #[.int .i64 0,.int .i64 0,.int .i64 0,.int .i64 0]] 8 rfl (World.shaped_of_RefB (by kernel_rfl) (by kernel_rfl)) (by kernel_rfl) (by kernel_rfl) (by kernel_rfl) (door_met os _)) ?_
  intro W base args ds gs before hval hW _ hwt hL _
  refine law_contract (P := Tryd.prog) (f := Tryd.f9) (s := Rows.shareOrderSpec) (n := 6) (tb := 4) (by kernel_rfl) ?_ ?_ rfl (by kernel_rfl) Tryd.underlying4 ?_ ?_ hval hW hwt (gl_of_laid hL)
  · rw [Tryd.params9]; intro t ht; simp at ht; rcases ht with rfl | rfl <;> exact ⟨by kernel_rfl,of_decide_eq_true (by kernel_rfl)⟩
  · rw [Tryd.params9]; intro t ht; simp at ht; rcases ht with rfl | rfl <;> kernel_rfl
  · rw [Tryd.params9]
    intro ds hd
    match ds,hd with
    | [d0,d1],_ => rfl
  · rw [Tryd.params9]
    exact fun xs h => order_args h
theorem order_row : Rows.ShareOrderSaid :=
  OpenClaim.holds_of_wide 9 Tryd.f9 rfl rfl rfl rfl rfl rfl rfl ⟨rfl,rfl,rfl,rfl,rfl⟩ rfl rfl rfl rfl rfl (by kernel_rfl) Tryd.func9 (by kernel_rfl)
    (of_decide_eq_true (by kernel_rfl)) (by unfold Func.isWrapper; first | (rw [if_pos (by decide +kernel)]; kernel_rfl) | (rw [if_neg (by decide +kernel)]; exact ⟨rfl,rfl⟩))
    (fun os started H enc _ => order_lifted os started H enc)
theorem order_holds : Rows.ShareOrderCardSaid :=
  Claim7.holds_tied_plain_at .later [] [.funcs] true (true, "752db1fba4dc1baf50c9642d1c5ef5d5de6bfa672efa457c4487cae6568e6d83") false
    order_row (fun _ h => by cases h) (by kernel_rfl) (fun _ h => by cases h) shareOrder_row_tie rfl ⟨rfl,rfl⟩ (by kernel_rfl) rfl
    (fun f fn hf hfn => by
      obtain rfl : f = 9 := Option.some.inj ((show Tryd.prog.funcNamed "drifter/drifterlaw03.ShareOrder" = some 9 by kernel_rfl).symm.trans hf) |>.symm
      obtain rfl : fn = Tryd.f9 := (Option.some.inj (Tryd.func9.symm.trans hfn)).symm
      exact ⟨by kernel_rfl,fun j t ht => by
        rw [Tryd.params9] at ht
        have hm : t ∈ ([32,56] : List TypeId) := by
          have := Array.mem_of_getElem? ht
          simpa using this
        have hall : ∀ t ∈ ([32,56] : List TypeId),Tryd.prog.wantsStandIn t = false := by
          intro t ht
          simp only [List.mem_cons,List.not_mem_nil,or_false] at ht
          rcases ht with rfl | rfl <;> kernel_rfl
        exact hall t hm⟩)
    (by kernel_rfl)
#print axioms order_holds
end Order
end Go.Proofs.YtejodhjhddnbeaaDoor.E
