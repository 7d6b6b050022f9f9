/-
  The chapter of the treaty: TreatyEven: THE THEOREM OF THE QUOTA, for any claims; a number chooses the set. Conditions: none.
-/
import Derived.Test.YtoafhoihigfllaaRows
import Derived.Test.YtoafhoihigfllaaTj
import Derived.Test.YtoafhoihigfllaaTp
import Derived.JoinedCond
import Derived.JoinedOf
namespace Go.Proofs.Ytoafhoihigfllaa.E
open Go Go.RowKit
set_option linter.unusedVariables false
noncomputable def F37 : Fm where
  k := 37
  α := (Bool × Bool) × Int × { d : Int // d ≠ 0 }
  f := fun x => [(x.1.1, .int .i64 x.2.1), (x.1.2, .int .i64 x.2.2.1)]
  g := fun x => [.fv (.int .i64 (modI x.2.1 x.2.2.1))]
  inj := fun ⟨⟨a, b⟩, n, d, h1⟩ ⟨⟨a', b'⟩, n', d', h1'⟩ h => by simp at h; simp [h]
  ok := fun ⟨⟨a, b⟩, n, d, h1⟩ => v37 _ (fam_ctx []) n d h1 a b
  en := enters_of Try.func37 (by kernel_rfl)
noncomputable def K7 : List Fm := K6 ++ [F37]
theorem law7 (q : Int) (l : List Int) (hl : l.length < 2^62) (set : Int) (ro r2 c : Bool) : Valid Try.prog 7 [(ro, fClaims q c l), (r2, .int .i64 set)] [.fv (.bool true)] := by
  have e15 : H15 (famCtx K7) := fun q l ro c hl => fam_at (F := F15) rfl (q, ro, c, ⟨l, hl⟩) rfl rfl
  have e20 : famCtx K7 20 [] = some [.fv (.bool true)] := fam_at (F := F20) rfl () rfl rfl
  cases h : okClaims q l with
  | false => exact v7 _ (fam_ctx K7) e15 (at18 rfl) e20 q l hl set ro r2 c h
  | true => exact v7g _ (fam_ctx K7) e15 (at18 rfl) (at36 rfl) (fun n d hd r1 r2 => fam_at (F := F37) rfl ((r1, r2), n, ⟨d, hd⟩) rfl rfl) (at38 rfl) e20 q l set ro r2 c h
namespace Even
theorem cells3 : Try.prog.cellsOf 3 = 1 := by kernel_rfl
theorem bytes3 : Try.prog.bytesOf 3 = 8 := by kernel_rfl
theorem args24 {fs : List FV} (h : IsT Try.prog 4 24 fs) : ∃ q l, fs = [.int .i64 q, .sl false 1 (ints l)] ∧ l.length < 2^62 := by
  obtain ⟨g0, g1, rfl, h0, h1⟩ := IsT_pair Try.underlying24 h
  obtain ⟨q, rfl⟩ := IsT_int Try.underlying3 h0
  obtain ⟨l, rfl, hl⟩ := IsT_ints Try.underlying22 Try.underlying3 cells3 bytes3 h1
  exact ⟨q, l, rfl, hl⟩
theorem struct24 : isStruct Try.prog 24 = true := by kernel_rfl
theorem struct3 : isStruct Try.prog 3 = false := by kernel_rfl
theorem own : ownKnob Try.prog.godebug = none := by kernel_rfl
theorem even_args {xs : List FV} (h : ArgsT Try.prog 4 [24, 3] xs) : Valid Try.prog 7 (xs.map fun x => (false, x)) [.fv (.bool true)] := by
  obtain ⟨fs, ys, h0, h1, h2⟩ := h
  obtain ⟨gs, hx, h3⟩ := ArgsT_one h2
  obtain ⟨q, l, hf, hl⟩ := args24 h1
  obtain ⟨m, hg⟩ := IsT_int Try.underlying3 h3
  rw [h0, hx, argFV_struct struct24, hf, hg, argFV_one struct3]
  exact law7 q l hl m false false false
set_option maxRecDepth 100000 in
theorem even_lifted (os : Os) (started : os.Started) (H : Type) (enc : TypeId × Value → H) :
    ReturnsInHanded {} Try.checked os 7 .any (Rows.treatyEvenSpec.pre6 enc Try.prog Try.f7 Rows.treatyEvenRow.domain false) (Rows.treatyEvenSpec.post enc Try.prog Try.f7 false true false false) := by
  refine returnsInHanded_of_change_sized (C := Try.checked) own started (by kernel_rfl) Try.func7
    (ChangeSpec.witness6 (enc := enc) (C := Try.checked) false ⟨#[], #[.agg #[.int .i64 0, .slice none 0 0], .int .i64 0], []⟩ 8 (by kernel_rfl) (by kernel_rfl) (by kernel_rfl) (by kernel_rfl)) ?_
  intro W base args ds gs before hval hW _ hwt _
  refine law_contract (P := Try.prog) (f := Try.f7) (s := Rows.treatyEvenSpec) (n := 4) (tb := 4) (by kernel_rfl) ?_ ?_ rfl (by kernel_rfl) Try.underlying4 ?_ ?_ hval hW hwt
  · rw [Try.params7]; intro t ht; simp at ht; rcases ht with rfl | rfl <;> exact ⟨by kernel_rfl, of_decide_eq_true (by kernel_rfl)⟩
  · rw [Try.params7]; intro t ht; simp at ht; rcases ht with rfl | rfl <;> kernel_rfl
  · rw [Try.params7]
    intro ds hd
    match ds, hd with
    | [d, d'], _ => rfl
  · rw [Try.params7]
    exact fun xs h => even_args h
theorem even_holds : Rows.TreatyEvenSaid :=
  OpenClaim.holds_of_wide 7 Try.f7 rfl rfl rfl rfl rfl rfl rfl ⟨rfl, rfl, rfl, rfl, rfl⟩ rfl rfl rfl rfl rfl (by kernel_rfl) Try.func7 (by kernel_rfl)
    (of_decide_eq_true (by kernel_rfl)) (by unfold Func.isWrapper; first | (rw [if_pos (by decide +kernel)]; kernel_rfl) | (rw [if_neg (by decide +kernel)]; exact ⟨rfl, rfl⟩))
    (fun os started H enc _ => even_lifted os started H enc)
end Even
#print axioms Even.even_holds
end Go.Proofs.Ytoafhoihigfllaa.E
