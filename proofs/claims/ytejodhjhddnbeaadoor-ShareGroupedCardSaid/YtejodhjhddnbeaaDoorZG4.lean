/-
  The groups of balances (ShareGrouped): the groups that are told hold each balance that is not 0 just once, and none that is 0; the balances of each group are together 0, and of no smaller part of it, for any balances; a number chooses the part. Conditions: none.
-/
import Derived.Test.YtejodhjhddnbeaaDoorCards
import Derived.Test.YtejodhjhddnbeaaDoorTie
import Derived.Test.YtejodhjhddnbeaaDoorZ24
import Derived.Test.YtejodhjhddnbeaaDoorZ25
import Derived.Test.YtejodhjhddnbeaaDoorZG3
import Derived.SevenTiedAt
set_option linter.unusedVariables false
set_option linter.unusedSimpArgs false
namespace Go.Proofs.YtejodhjhddnbeaaDoor.E
open Go Go.RowKit
namespace Grouped
noncomputable def F39 : Fm where
  k := 39
  α := { x : (List Int) × Int × Bool × Bool × Bool // (match x with | (l,n,r0,r1,c) => (0 ≤ n ∧ n < 1000000) ∧ (l.length < 1000000) ∧ (l.Pairwise (· < ·)) ∧ (∀ x ∈ l,0 ≤ x ∧ x < n)) }
  f := fun ⟨(l,n,r0,r1,c),_⟩ => [(r0,.sl c 1 (ints l)),(r1,.int .i64 n)]
  g := fun ⟨(l,n,r0,r1,c),_⟩ => [.fv (.bool true)]
  inj := fun ⟨(l,n,r0,r1,c),_⟩ ⟨(l',n',r0',r1',c'),_⟩ hh => by rfl
  ok := fun ⟨(l,n,r0,r1,c),⟨h1,h2,h3,h4⟩⟩ => v39 _ (fam_ctx KL) (at29 rfl) l n h1 h2 h3 h4 r0 r1 c
  en := enters_of Tryd.func39 (by kernel_rfl)
theorem at39 {L : List Fm} (h : L.find? (fun G => G.k == 39) = some F39) : H39 (famCtx L) := fun l n r0 r1 c h1 h2 h3 h4 => fam_at (F := F39) h ⟨(l,n,r0,r1,c),⟨h1,h2,h3,h4⟩⟩ rfl rfl
noncomputable def F40 : Fm where
  k := 40
  α := { x : Nat × Nat × Bool × Bool // (match x with | (s,k,r0,r1) => (s < 2^62) ∧ (k < 62)) }
  f := fun ⟨(s,k,r0,r1),_⟩ => [(r0,.int .i64 (s : Int)),(r1,.int .i64 (k : Int))]
  g := fun ⟨(s,k,r0,r1),_⟩ => [.fv (.bool (s.testBit k))]
  inj := fun ⟨(s,k,r0,r1),_⟩ ⟨(s',k',r0',r1'),_⟩ hh => by
    simp [ints_inj,stL_inj,voyF_inj,shF_inj,duF_inj,paL_inj,natL_inj,bookF_inj,stF_inj,duL_inj,Int.natCast_inj] at hh
    simp [hh]
  ok := fun ⟨(s,k,r0,r1),⟨h1,h2⟩⟩ => v40 _ (fam_ctx KL) s k h1 h2 r0 r1
  en := enters_of Tryd.func40 (by kernel_rfl)
theorem at40 {L : List Fm} (h : L.find? (fun G => G.k == 40) = some F40) : H40 (famCtx L) := fun s k r0 r1 h1 h2 => fam_at (F := F40) h ⟨(s,k,r0,r1),⟨h1,h2⟩⟩ rfl rfl
noncomputable def KG : List Fm := F39 :: F40 :: KL
theorem grouped_args {xs : List FV} (h : ArgsT Tryd.prog 6 [23,3] xs) : Valid Tryd.prog 11 (xs.map fun x => (false,x)) [.fv (.bool true)] := by
  obtain ⟨fs,ys,h0,h1,h2⟩ := h
  obtain ⟨us,h6,h7⟩ := ArgsT_one h2
  obtain ⟨l,hl,hb⟩ := isL (n := 4) h1
  obtain ⟨m,hm⟩ := isI (n := 5) h7
  rw [h0,h6,argL hl,argI hm]
  exact v11 _ (fam_ctx KG) (at18 rfl) (at32 rfl) (at37 rfl) (at38 rfl) (at39 rfl) (at40 rfl) l m hb false false false
set_option maxRecDepth 100000 in
theorem grouped_lifted (os : Os) (started : os.Started) (H : Type) (enc : TypeId × Value → H) :
    ReturnsInHanded {} Tryd.checked os 11 .any (fun w args => (Rows.shareGroupedSpec.pre enc Tryd.prog Tryd.f11 [] false w args ∧ laidMetH Tryd.prog laidP w) ∧ sizedMet enc Tryd.prog Tryd.f11 (OpenSpec.ofChange Rows.shareGroupedSpec) false w args)
      (Rows.shareGroupedSpec.post enc Tryd.prog Tryd.f11 false true false false) := by
  refine returnsInHanded_of_change_and (C := Tryd.checked) (X := fun w _ => laidMetH Tryd.prog laidP w) (fun _ _ _ hh h => h.of_heap hh) ownP started (by kernel_rfl) Tryd.func11
    (ChangeSpec.witness_shaped (enc := enc) (C := Tryd.checked) (os := os) (X := fun w _ => laidMetH Tryd.prog laidP w) false (World.doorLaid Tryd.prog 2000 os) #[.slice none 0 0,.int .i64 0] 8 rfl (World.shaped_of_RefB (by kernel_rfl) (by kernel_rfl)) (by kernel_rfl) (by kernel_rfl) (by kernel_rfl) (door_met os _)) ?_
  intro W base args ds gs before hval hW _ hwt hL _
  refine law_contract (P := Tryd.prog) (f := Tryd.f11) (s := Rows.shareGroupedSpec) (n := 6) (tb := 4) (by kernel_rfl) ?_ ?_ rfl (by kernel_rfl) Tryd.underlying4 ?_ ?_ hval hW hwt (gl_of_laid hL)
  · rw [Tryd.params11]; intro t ht; simp at ht; rcases ht with rfl | rfl <;> exact ⟨by kernel_rfl,of_decide_eq_true (by kernel_rfl)⟩
  · rw [Tryd.params11]; intro t ht; simp at ht; rcases ht with rfl | rfl <;> kernel_rfl
  · rw [Tryd.params11]
    intro ds hd
    match ds,hd with
    | [d0,d1],_ => rfl
  · rw [Tryd.params11]
    exact fun xs h => grouped_args h
theorem grouped_row : Rows.ShareGroupedSaid :=
  OpenClaim.holds_of_wide 11 Tryd.f11 rfl rfl rfl rfl rfl rfl rfl ⟨rfl,rfl,rfl,rfl,rfl⟩ rfl rfl rfl rfl rfl (by kernel_rfl) Tryd.func11 (by kernel_rfl)
    (of_decide_eq_true (by kernel_rfl)) (by unfold Func.isWrapper; first | (rw [if_pos (by decide +kernel)]; kernel_rfl) | (rw [if_neg (by decide +kernel)]; exact ⟨rfl,rfl⟩))
    (fun os started H enc _ => grouped_lifted os started H enc)
theorem grouped_holds : Rows.ShareGroupedCardSaid :=
  Claim7.holds_tied_plain_at .later [] [.funcs] true (true, "752db1fba4dc1baf50c9642d1c5ef5d5de6bfa672efa457c4487cae6568e6d83") false
    grouped_row (fun _ h => by cases h) (by kernel_rfl) (fun _ h => by cases h) shareGrouped_row_tie rfl ⟨rfl,rfl⟩ (by kernel_rfl) rfl
    (fun f fn hf hfn => by
      obtain rfl : f = 11 := Option.some.inj ((show Tryd.prog.funcNamed "drifter/drifterlaw03.ShareGrouped" = some 11 by kernel_rfl).symm.trans hf) |>.symm
      obtain rfl : fn = Tryd.f11 := (Option.some.inj (Tryd.func11.symm.trans hfn)).symm
      exact ⟨by kernel_rfl,fun j t ht => by
        rw [Tryd.params11] at ht
        have hm : t ∈ ([23,3] : List TypeId) := by
          have := Array.mem_of_getElem? ht
          simpa using this
        have hall : ∀ t ∈ ([23,3] : List TypeId),Tryd.prog.wantsStandIn t = false := by
          intro t ht
          simp only [List.mem_cons,List.not_mem_nil,or_false] at ht
          rcases ht with rfl | rfl <;> kernel_rfl
        exact hall t hm⟩)
    (by kernel_rfl)
#print axioms grouped_holds
end Grouped
end Go.Proofs.YtejodhjhddnbeaaDoor.E
