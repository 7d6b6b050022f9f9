/-
  The chapter of the treaty: the laws of the grounds, put together. Conditions: none.
-/
import Derived.Test.YtoafhoihigfllaaCy
import Derived.Test.YtoafhoihigfllaaBe
namespace Go.Proofs.Ytoafhoihigfllaa.E
open Go Go.RowKit
set_option linter.unusedVariables false
set_option linter.unusedSimpArgs false
noncomputable def F37i : Fm where
  k := 37
  α := (Bool × Bool) × Int × { d : Int // d ≠ 0 }
  f := fun x => [(x.1.1, .int .i64 x.2.1), (x.1.2, .int .i64 x.2.2.1)]
  g := fun x => [.fv (.int .i64 (modI x.2.1 x.2.2.1))]
  inj := fun ⟨⟨a, b⟩, n, d, h1⟩ ⟨⟨a', b'⟩, n', d', h1'⟩ h => by simp at h; simp [h]
  ok := fun ⟨⟨a, b⟩, n, d, h1⟩ => v37 _ (fam_ctx []) n d h1 a b
  en := enters_of Try.func37 (by kernel_rfl)
theorem at37 {L : List Fm} (h : L.find? (fun G => G.k == 37) = some F37i) : H37 (famCtx L) := fun n d hd r1 r2 => fam_at h ((r1, r2), n, ⟨d, hd⟩) rfl rfl
section
variable (w : List (Bool × List Int)) (c : Bool) (hr : Rows47 w)
noncomputable def F39 : Fm where
  k := 39
  α := Bool
  f := fun x => [(x, .sl c 1 (rowsF w))]
  g := fun x => [.fv (.bool (okWishes w))]
  inj := fun _ _ _ => rfl
  ok := fun a => v39 _ (fam_ctx [F24 w c hr, F36, F40]) w c (fun ro => fam_at (F := F24 w c hr) rfl ro rfl rfl) (at36 rfl) (at40 rfl) a
  en := enters_of Try.func39 (by kernel_rfl)
noncomputable def F28s (x : List Int) (hx : x.length * 8 ≤ 140737488355328) : Fm where
  k := 28
  α := (Bool × Bool × Bool × Bool) × Int
  f := fun y => [(y.1.1, .sl c 1 (rowsF w)), (y.1.2.1, .sl y.1.2.2.2 1 (ints x)), (y.1.2.2.1, .int .i64 y.2)]
  g := fun y => [.fv (.bool (valB w x y.2)), .fv (.int .i64 (codeB w x y.2))]
  inj := fun ⟨⟨a, b, d, e⟩, n⟩ ⟨⟨a', b', d', e'⟩, n'⟩ h => by simp at h; simp [h]
  ok := fun ⟨⟨a, b, d, e⟩, n⟩ => val28 w c hr e x hx n a b d
  en := enters_of Try.func28 (by kernel_rfl)
theorem swapW_47 : (swapW w).length * 8 ≤ 140737488355328 := by
  unfold swapW
  split
  · rename_i h
    have := (okWishes_wish h).few
    simp only [swapOf, swap_fold_length, List.length_replicate]; omega
  · simp
include hr in
theorem law8 (set : Int) (ro r1 : Bool) : Valid Try.prog 8 [(ro, .sl c 1 (rowsF w)), (r1, .int .i64 set)] [.fv (.bool true)] :=
  v8 _ (fam_ctx [F26 w c hr, F39 w c hr, F40, F37i, F20, F28s w c hr (swapW w) (swapW_47 w)]) w c set (fun ro => fam_at (F := F26 w c hr) rfl ro rfl rfl) (fun ro => fam_at (F := F39 w c hr) rfl ro rfl rfl) (at40 rfl) (at37 rfl) (fam_at (F := F20) rfl () rfl rfl)
    (fun hok q h1 h2 r0 r1 r2 cx => by
      have hw := okWishes_wish hok
      have hs := swapped hw
      have hx : swapW w = swapOf w.length (ringsOf w) := by rw [swapW, if_pos hok]
      have hask : okAsk w (swapW w) q = true := by
        have hp := (pow_small hw.few.2).1
        rw [okAsk, hx, once_iff.mpr hs.ord, hp, decide_eq_true h1, decide_eq_true h2]; rfl
      have hv : valB w (swapW w) q = false := by rw [valB, hx, no_better hw hs]; simp
      have hc : codeB w (swapW w) q = 0 := by rw [codeB, hok, hask]; rfl
      refine fam_at (F := F28s w c hr (swapW w) (swapW_47 w)) rfl ((r0, r1, r2, cx), q) rfl ?_
      simp only [F28s, hv, hc]) ro r1
end
end Go.Proofs.Ytoafhoihigfllaa.E
namespace Go.Proofs.Ytoafhoihigfllaa.E
open Go Go.RowKit
set_option linter.unusedVariables false
set_option linter.unusedSimpArgs false
theorem rowsF_inj {w v : List (Bool × List Int)} : rowsF w = rowsF v ↔ w = v := by
  constructor
  · intro h
    induction w generalizing v with
    | nil => cases v with
      | nil => rfl
      | cons y v => simp [rowsF] at h
    | cons x w ih => cases v with
      | nil => simp [rowsF] at h
      | cons y v =>
        simp only [rowsF, List.map_cons, List.cons.injEq, rowF, FV.sl.injEq, true_and, ints_inj] at h
        rw [Prod.ext h.1.1 h.1.2, ih h.2]
  · rintro rfl; rfl
theorem wish_ok {w : List (Bool × List Int)} (h : Wish w) : okWishes w = true := by
  simp only [okWishes, Bool.and_eq_true, decide_eq_true_eq, List.all_eq_true]
  refine ⟨⟨by have := h.few; omega, by have := h.few; omega⟩, fun p hp => ?_⟩
  obtain ⟨k, hk, rfl⟩ := List.getElem_of_mem hp
  have := h.ord k hk
  rw [rowAt_get hk] at this
  exact once_iff.mpr this
noncomputable def F26g : Fm where
  k := 26
  α := Bool × { y : List (Bool × List Int) × Bool // Rows47 y.1 }
  f := fun x => [(x.1, .sl x.2.1.2 1 (rowsF x.2.1.1))]
  g := fun x => [.us 1 (ints (swapW x.2.1.1)), .fv (.int .i64 (codeW x.2.1.1))]
  inj := fun ⟨a, ⟨w, c⟩, h1⟩ ⟨a', ⟨w', c'⟩, h1'⟩ h => by simp [rowsF_inj] at h; simp [h]
  ok := fun ⟨a, ⟨w, c⟩, h1⟩ => (F26 w c h1).ok a
  en := enters_of Try.func26 (by kernel_rfl)
theorem at26 {L : List Fm} (h : L.find? (fun G => G.k == 26) = some F26g) {w : List (Bool × List Int)} (hr : Rows47 w) (c : Bool) : H26 (famCtx L) w c := fun ro => fam_at h (ro, ⟨(w, c), hr⟩) rfl rfl
noncomputable def F47 : Fm where
  k := 47
  α := (Bool × Bool × Bool) × List Int × Nat
  f := fun x => [(x.1.1, .sl x.1.2.2 1 (ints x.2.1)), (x.1.2.1, .int .i64 x.2.2)]
  g := fun x => [.fv (.int .i64 (pickI x.2.1 x.2.2))]
  inj := fun ⟨⟨a, b, c⟩, l, n⟩ ⟨⟨a', b', c'⟩, l', n'⟩ h => by simp [ints_inj, Int.natCast_inj] at h; simp [h]
  ok := fun ⟨⟨a, b, c⟩, l, n⟩ => v47 _ (fam_ctx [F37i]) (at37 rfl) l n a b c
  en := enters_of Try.func47 (by kernel_rfl)
noncomputable def F41 : Fm where
  k := 41
  α := (Bool × Bool × Bool) × { n : Nat // n ≤ 8 } × List Int
  f := fun x => [(x.1.1, .int .i64 x.2.1.1), (x.1.2.1, .sl x.1.2.2 1 (ints x.2.2))]
  g := fun x => [.us 1 (ints (mixI x.2.1.1 x.2.2))]
  inj := fun ⟨⟨a, b, c⟩, ⟨n, hn⟩, l⟩ ⟨⟨a', b', c'⟩, ⟨n', hn'⟩, l'⟩ h => by simp [ints_inj, Int.natCast_inj] at h; simp [h]
  ok := fun ⟨⟨a, b, c⟩, ⟨n, hn⟩, l⟩ => v41 _ (fam_ctx [F37i, F47]) (at37 rfl) (fun bits i r1 r2 c => fam_at (F := F47) rfl ((r1, r2, c), bits, i) rfl rfl) n hn l a b c
  en := enters_of Try.func41 (by kernel_rfl)
theorem at41 {L : List Fm} (h : L.find? (fun G => G.k == 41) = some F41) {n : Nat} (hn : n ≤ 8) (bits : List Int) (r1 r2 c : Bool) : famCtx L 41 [(r1, .int .i64 n), (r2, .sl c 1 (ints bits))] = some [.us 1 (ints (mixI n bits))] := fam_at h ((r1, r2, c), ⟨n, hn⟩, bits) rfl rfl
theorem Rows47.set {w : List (Bool × List Int)} (hr : Rows47 w) {k : Nat} {p : Bool × List Int} (hp : p.2.length * 8 ≤ 140737488355328) : Rows47 (w.set k p) :=
  ⟨by rw [List.length_set]; exact hr.len, fun q hq => by
    rcases List.mem_or_eq_of_mem_set hq with h | h
    · exact hr.row q h
    · rw [h]; exact hp⟩
theorem law10 (w : List (Bool × List Int)) (c : Bool) (hr : Rows47 w) (nation : Int) (bits : List Int) (r1 r2 cb : Bool) : Valid Try.prog 10 [(false, .sl c 1 (rowsF w)), (r1, .int .i64 nation), (r2, .sl cb 1 (ints bits))] [.fv (.bool true)] :=
  v10 _ (fam_ctx [F39 w c hr, F26g, F40, F37i, F20, F41]) w c hr.len nation bits (fun ro => fam_at (F := F39 w c hr) rfl ro rfl rfl) (at26 rfl hr c) (at40 rfl) (at37 rfl) (fam_at (F := F20) rfl () rfl rfl) (fun hn r1 r2 c => at41 rfl hn bits r1 r2 c)
    (fun hok k hk => at26 rfl (hr.set (by
      have h8 := (okWishes_wish hok).few
      have := (mixI_ord w.length bits (by omega)).len
      show (mixI w.length bits).length * 8 ≤ 140737488355328
      omega)) false) (fun w h => wish_ok h) r1 r2 cb
end Go.Proofs.Ytoafhoihigfllaa.E
namespace Go.Proofs.Ytoafhoihigfllaa.E
open Go Go.RowKit
set_option linter.unusedVariables false
set_option linter.unusedSimpArgs false
theorem mixI_47 (n : Nat) (hn : n ≤ 8) (bits : List Int) : (mixI n bits).length * 8 ≤ 140737488355328 := by
  have := (mixI_ord n bits (by omega)).len
  omega
theorem law9 (w : List (Bool × List Int)) (c : Bool) (hr : Rows47 w) (bits : List Int) (r0 r1 cb : Bool) : Valid Try.prog 9 [(r0, .sl c 1 (rowsF w)), (r1, .sl cb 1 (ints bits))] [.fv (.bool true)] := by
  by_cases h8 : w.length ≤ 8
  · refine v9 _ (fam_ctx [F39 w c hr, F26g, F21 w c hr, F36, F37i, F42, F20, F41, F17, F28s w c hr (mixI w.length bits) (mixI_47 _ h8 bits)]) w c bits (fun ro => fam_at (F := F39 w c hr) rfl ro rfl rfl) (at26 rfl hr c) (fun ro => fam_at (F := F21 w c hr) rfl ro rfl rfl) (at36 rfl) (at37 rfl) (at42 rfl) (fam_at (F := F20) rfl () rfl rfl)
      (fun hn r1 r2 c => at41 rfl hn bits r1 r2 c) (fun r1 r2 c1 c2 => fam_at (F := F17) rfl ((r1, c1, ⟨swapW w, swapW_len w⟩), (r2, c2, ⟨swapW w, swapW_len w⟩)) rfl (by simp [F17])) (fun hok s hs r0 r1 r2 cx => ?_) r0 r1 cb
    have ho := mixI_ord w.length bits (by omega)
    have hask : okAsk w (mixI w.length bits) (s : Int) = true := by
      have hp := (pow_small h8).1
      rw [okAsk, once_iff.mpr ho, hp, decide_eq_true (show (0 : Int) ≤ s by omega), decide_eq_true (show (s : Int) ≤ ((2 ^ w.length : Nat) : Int) - 1 by omega)]; rfl
    have hv : valB w (mixI w.length bits) (s : Int) = betterA w (mixI w.length bits) s (memFrom s w.length 0) (List.replicate 8 false) false := by
      rw [valB, hok, hask, Int.toNat_natCast]; rfl
    have hc : codeB w (mixI w.length bits) (s : Int) = 0 := by rw [codeB, hok, hask]; rfl
    refine fam_at (F := F28s w c hr (mixI w.length bits) (mixI_47 _ h8 bits)) rfl ((r0, r1, r2, cx), (s : Int)) rfl ?_
    simp only [F28s, hv, hc]
  · have hbad : okWishes w = false := by
      cases h : okWishes w with
      | false => rfl
      | true => exact absurd (okWishes_wish h).few.2 h8
    exact v9 _ (fam_ctx [F39 w c hr, F26g, F21 w c hr, F36, F37i, F42, F20, F41, F17]) w c bits (fun ro => fam_at (F := F39 w c hr) rfl ro rfl rfl) (at26 rfl hr c) (fun ro => fam_at (F := F21 w c hr) rfl ro rfl rfl) (at36 rfl) (at37 rfl) (at42 rfl) (fam_at (F := F20) rfl () rfl rfl)
      (fun hn r1 r2 c => absurd hn h8) (fun r1 r2 c1 c2 => fam_at (F := F17) rfl ((r1, c1, ⟨swapW w, swapW_len w⟩), (r2, c2, ⟨swapW w, swapW_len w⟩)) rfl (by simp [F17])) (fun hok => by rw [hbad] at hok; simp at hok) r0 r1 cb
end Go.Proofs.Ytoafhoihigfllaa.E
