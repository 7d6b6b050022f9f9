/-
  The chapter of the treaty: the law of the grounds, put together. Conditions: none.
-/
import Derived.Test.YtoafhoihigfllaaCb
import Derived.Test.YtoafhoihigfllaaBe
namespace Go.Proofs.Ytoafhoihigfllaa.E
open Go Go.RowKit
set_option linter.unusedVariables false
set_option linter.unusedSimpArgs false
noncomputable def F37i : Fm where
  k := 37
  α := (Bool × Bool) × Int × { d : Int // d ≠ 0 }
  f := fun x => [(x.1.1, .int .i64 x.2.1), (x.1.2, .int .i64 x.2.2.1)]
  g := fun x => [.fv (.int .i64 (modI x.2.1 x.2.2.1))]
  inj := fun ⟨⟨a, b⟩, n, d, h1⟩ ⟨⟨a', b'⟩, n', d', h1'⟩ h => by simp at h; simp [h]
  ok := fun ⟨⟨a, b⟩, n, d, h1⟩ => v37 _ (fam_ctx []) n d h1 a b
  en := enters_of Try.func37 (by kernel_rfl)
theorem at37 {L : List Fm} (h : L.find? (fun G => G.k == 37) = some F37i) : H37 (famCtx L) := fun n d hd r1 r2 => fam_at h ((r1, r2), n, ⟨d, hd⟩) rfl rfl
section
variable (w : List (Bool × List Int)) (c : Bool) (hr : Rows47 w)
noncomputable def F39 : Fm where
  k := 39
  α := Bool
  f := fun x => [(x, .sl c 1 (rowsF w))]
  g := fun x => [.fv (.bool (okWishes w))]
  inj := fun _ _ _ => rfl
  ok := fun a => v39 _ (fam_ctx [F24 w c hr, F36, F40]) w c (fun ro => fam_at (F := F24 w c hr) rfl ro rfl rfl) (at36 rfl) (at40 rfl) a
  en := enters_of Try.func39 (by kernel_rfl)
noncomputable def F28s (x : List Int) (hx : x.length * 8 ≤ 140737488355328) : Fm where
  k := 28
  α := (Bool × Bool × Bool × Bool) × Int
  f := fun y => [(y.1.1, .sl c 1 (rowsF w)), (y.1.2.1, .sl y.1.2.2.2 1 (ints x)), (y.1.2.2.1, .int .i64 y.2)]
  g := fun y => [.fv (.bool (valB w x y.2)), .fv (.int .i64 (codeB w x y.2))]
  inj := fun ⟨⟨a, b, d, e⟩, n⟩ ⟨⟨a', b', d', e'⟩, n'⟩ h => by simp at h; simp [h]
  ok := fun ⟨⟨a, b, d, e⟩, n⟩ => val28 w c hr e x hx n a b d
  en := enters_of Try.func28 (by kernel_rfl)
theorem swapW_47 : (swapW w).length * 8 ≤ 140737488355328 := by
  unfold swapW
  split
  · rename_i h
    have := (okWishes_wish h).few
    simp only [swapOf, swap_fold_length, List.length_replicate]; omega
  · simp
include hr in
theorem law8 (set : Int) (ro r1 : Bool) : Valid Try.prog 8 [(ro, .sl c 1 (rowsF w)), (r1, .int .i64 set)] [.fv (.bool true)] :=
  v8 _ (fam_ctx [F26 w c hr, F39 w c hr, F40, F37i, F20, F28s w c hr (swapW w) (swapW_47 w)]) w c set (fun ro => fam_at (F := F26 w c hr) rfl ro rfl rfl) (fun ro => fam_at (F := F39 w c hr) rfl ro rfl rfl) (at40 rfl) (at37 rfl) (fam_at (F := F20) rfl () rfl rfl)
    (fun hok q h1 h2 r0 r1 r2 cx => by
      have hw := okWishes_wish hok
      have hs := swapped hw
      have hx : swapW w = swapOf w.length (ringsOf w) := by rw [swapW, if_pos hok]
      have hask : okAsk w (swapW w) q = true := by
        have hp := (pow_small hw.few.2).1
        rw [okAsk, hx, once_iff.mpr hs.ord, hp, decide_eq_true h1, decide_eq_true h2]; rfl
      have hv : valB w (swapW w) q = false := by rw [valB, hx, no_better hw hs]; simp
      have hc : codeB w (swapW w) q = 0 := by rw [codeB, hok, hask]; rfl
      refine fam_at (F := F28s w c hr (swapW w) (swapW_47 w)) rfl ((r0, r1, r2, cx), q) rfl ?_
      simp only [F28s, hv, hc]) ro r1
end
end Go.Proofs.Ytoafhoihigfllaa.E
