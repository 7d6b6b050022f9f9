/-
  The theorem of the shares (SharePenny): all shares of a voyage are together what is divided: nothing is left over; each part is divided fairly, by parts of the boat, claims, and what hands count; names are told once, increasing, for any voyage. Conditions: none.
-/
import Derived.Test.YtejodhjhddnbeaaDoorCards
import Derived.Test.YtejodhjhddnbeaaDoorTie
import Derived.Test.YtejodhjhddnbeaaDoorZ24
import Derived.Test.YtejodhjhddnbeaaDoorZ25
import Derived.Test.YtejodhjhddnbeaaDoorZP2
import Derived.SevenTiedAt
set_option linter.unusedVariables false
set_option linter.unusedSimpArgs false
namespace Go.Proofs.YtejodhjhddnbeaaDoor.E
open Go Go.RowKit
namespace Penny
noncomputable def F30 : Fm where
  k := 30
  α := { x : Int × (List Int) × (List Int) × Bool × Bool × Bool × Bool × Bool // (match x with | (s,l,w,r0,r1,r2,c1,c2) => (FairP s l w)) }
  f := fun ⟨(s,l,w,r0,r1,r2,c1,c2),_⟩ => [(r0,.int .i64 s),(r1,.sl c1 1 (ints l)),(r2,.sl c2 1 (ints w))]
  g := fun ⟨(s,l,w,r0,r1,r2,c1,c2),_⟩ => [.fv (.bool true)]
  inj := fun ⟨(s,l,w,r0,r1,r2,c1,c2),_⟩ ⟨(s',l',w',r0',r1',r2',c1',c2'),_⟩ hh => by rfl
  ok := fun ⟨(s,l,w,r0,r1,r2,c1,c2),hf⟩ => v30 _ (fam_ctx KL) (at34 rfl) s l w hf r0 r1 r2 c1 c2
  en := enters_of Tryd.func30 (by kernel_rfl)
theorem at30 {L : List Fm} (h : L.find? (fun G => G.k == 30) = some F30) : H30 (famCtx L) := fun s l w r0 r1 r2 c1 c2 hf => fam_at (F := F30) h ⟨(s,l,w,r0,r1,r2,c1,c2),hf⟩ rfl rfl
noncomputable def F35 : Fm where
  k := 35
  α := { x : (List Due) × ByteArray × Bool × Bool × Bool // (match x with | (l,n,ro,r1,c) => (l.length < 2^44)) }
  f := fun ⟨(l,n,ro,r1,c),_⟩ => [(ro,.sl c 4 (duL l)),(r1,.str n)]
  g := fun ⟨(l,n,ro,r1,c),_⟩ => [.fv (duF (dueS l n).1),.fv (.bool ((dueS l n).2 == 1))]
  inj := fun ⟨(l,n,ro,r1,c),_⟩ ⟨(l',n',ro',r1',c'),_⟩ hh => by
    simp [ints_inj,stL_inj,voyF_inj,shF_inj,duF_inj,paL_inj,natL_inj,bookF_inj,stF_inj,duL_inj,Int.natCast_inj] at hh
    simp [hh]
  ok := fun ⟨(l,n,ro,r1,c),hl⟩ => v35 _ (fam_ctx KL) l n hl ro r1 c
  en := enters_of Tryd.func35 (by kernel_rfl)
theorem at35 {L : List Fm} (h : L.find? (fun G => G.k == 35) = some F35) : H35 (famCtx L) := fun l n ro r1 c hl => fam_at (F := F35) h ⟨(l,n,ro,r1,c),hl⟩ rfl rfl
noncomputable def KN : List Fm := F30 :: F35 :: KL
theorem penny_args {xs : List FV} (h : ArgsT Tryd.prog 6 [32] xs) : Valid Tryd.prog 8 (xs.map fun x => (false,x)) [.fv (.bool true)] := by
  obtain ⟨us,h6,h7⟩ := ArgsT_one h
  obtain ⟨v,hf,hv⟩ := isVoy (n := 2) h7
  rw [h6,hf]
  exact v8 _ (fam_ctx KN) (at18 rfl) (at19 rfl) (at23 rfl) (at25 rfl) (at30 rfl) (at31 rfl) (at33 rfl) (at34 rfl) (at35 rfl) v hv
set_option maxRecDepth 100000 in
theorem penny_lifted (os : Os) (started : os.Started) (H : Type) (enc : TypeId × Value → H) :
    ReturnsInHanded {} Tryd.checked os 8 .any (fun w args => (Rows.sharePennySpec.pre enc Tryd.prog Tryd.f8 [] false w args ∧ laidMetH Tryd.prog laidP w) ∧ sizedMet enc Tryd.prog Tryd.f8 (OpenSpec.ofChange Rows.sharePennySpec) false w args)
      (Rows.sharePennySpec.post enc Tryd.prog Tryd.f8 false true false false) := by
  refine returnsInHanded_of_change_and (C := Tryd.checked) (X := fun w _ => laidMetH Tryd.prog laidP w) (fun _ _ _ hh h => h.of_heap hh) ownP started (by kernel_rfl) Tryd.func8
    (ChangeSpec.witness_shaped (enc := enc) (C := Tryd.checked) (os := os) (X := fun w _ => laidMetH Tryd.prog laidP w) false (World.doorLaid Tryd.prog 2000 os) #[.agg #[.int .i64 0,.slice none 0 0,.int .i64 0,.int .i64 0,.int .i64 0,.slice none 0 0,.slice none 0 0,.slice none 0 0,.slice none 0 0]] 8 rfl (World.shaped_of_RefB (by kernel_rfl) (by kernel_rfl)) (by kernel_rfl) (by kernel_rfl) (by kernel_rfl) (door_met os _)) ?_
  intro W base args ds gs before hval hW _ hwt hL _
  refine law_contract (P := Tryd.prog) (f := Tryd.f8) (s := Rows.sharePennySpec) (n := 6) (tb := 4) (by kernel_rfl) ?_ ?_ rfl (by kernel_rfl) Tryd.underlying4 ?_ ?_ hval hW hwt (gl_of_laid hL)
  · rw [Tryd.params8]; intro t ht; simp at ht; subst ht; exact ⟨by kernel_rfl,of_decide_eq_true (by kernel_rfl)⟩
  · rw [Tryd.params8]; intro t ht; simp at ht; subst ht; kernel_rfl
  · rw [Tryd.params8]
    intro ds hd
    match ds,hd with
    | [d0],_ => rfl
  · rw [Tryd.params8]
    exact fun xs h => penny_args h
theorem penny_row : Rows.SharePennySaid :=
  OpenClaim.holds_of_wide 8 Tryd.f8 rfl rfl rfl rfl rfl rfl rfl ⟨rfl,rfl,rfl,rfl,rfl⟩ rfl rfl rfl rfl rfl (by kernel_rfl) Tryd.func8 (by kernel_rfl)
    (of_decide_eq_true (by kernel_rfl)) (by unfold Func.isWrapper; first | (rw [if_pos (by decide +kernel)]; kernel_rfl) | (rw [if_neg (by decide +kernel)]; exact ⟨rfl,rfl⟩))
    (fun os started H enc _ => penny_lifted os started H enc)
theorem penny_holds : Rows.SharePennyCardSaid :=
  Claim7.holds_tied_plain_at .later [] [.funcs] true (true, "752db1fba4dc1baf50c9642d1c5ef5d5de6bfa672efa457c4487cae6568e6d83") false
    penny_row (fun _ h => by cases h) (by kernel_rfl) (fun _ h => by cases h) sharePenny_row_tie rfl ⟨rfl,rfl⟩ (by kernel_rfl) rfl
    (fun f fn hf hfn => by
      obtain rfl : f = 8 := Option.some.inj ((show Tryd.prog.funcNamed "drifter/drifterlaw03.SharePenny" = some 8 by kernel_rfl).symm.trans hf) |>.symm
      obtain rfl : fn = Tryd.f8 := (Option.some.inj (Tryd.func8.symm.trans hfn)).symm
      exact ⟨by kernel_rfl,fun j t ht => by
        rw [Tryd.params8] at ht
        have hm : t ∈ ([32] : List TypeId) := by
          have := Array.mem_of_getElem? ht
          simpa using this
        have hall : ∀ t ∈ ([32] : List TypeId),Tryd.prog.wantsStandIn t = false := by
          intro t ht
          simp only [List.mem_cons,List.not_mem_nil,or_false] at ht
          subst ht; kernel_rfl
        exact hall t hm⟩)
    (by kernel_rfl)
#print axioms penny_holds
end Penny
end Go.Proofs.YtejodhjhddnbeaaDoor.E
