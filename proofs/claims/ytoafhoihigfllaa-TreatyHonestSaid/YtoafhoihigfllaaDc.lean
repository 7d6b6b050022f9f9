/-
  The chapter of the treaty: the law that nobody gets more by other wishes, put together. Conditions: none.
-/
import Derived.Test.YtoafhoihigfllaaCc
import Derived.Test.YtoafhoihigfllaaDb
namespace Go.Proofs.Ytoafhoihigfllaa.E
open Go Go.RowKit
set_option linter.unusedVariables false
set_option linter.unusedSimpArgs false
theorem rowsF_inj {w v : List (Bool × List Int)} : rowsF w = rowsF v ↔ w = v := by
  constructor
  · intro h
    induction w generalizing v with
    | nil => cases v with
      | nil => rfl
      | cons y v => simp [rowsF] at h
    | cons x w ih => cases v with
      | nil => simp [rowsF] at h
      | cons y v =>
        simp only [rowsF, List.map_cons, List.cons.injEq, rowF, FV.sl.injEq, true_and, ints_inj] at h
        rw [Prod.ext h.1.1 h.1.2, ih h.2]
  · rintro rfl; rfl
theorem wish_ok {w : List (Bool × List Int)} (h : Wish w) : okWishes w = true := by
  simp only [okWishes, Bool.and_eq_true, decide_eq_true_eq, List.all_eq_true]
  refine ⟨⟨by have := h.few; omega, by have := h.few; omega⟩, fun p hp => ?_⟩
  obtain ⟨k, hk, rfl⟩ := List.getElem_of_mem hp
  have := h.ord k hk
  rw [rowAt_get hk] at this
  exact once_iff.mpr this
noncomputable def F26g : Fm where
  k := 26
  α := Bool × { y : List (Bool × List Int) × Bool // Rows47 y.1 }
  f := fun x => [(x.1, .sl x.2.1.2 1 (rowsF x.2.1.1))]
  g := fun x => [.us 1 (ints (swapW x.2.1.1)), .fv (.int .i64 (codeW x.2.1.1))]
  inj := fun ⟨a, ⟨w, c⟩, h1⟩ ⟨a', ⟨w', c'⟩, h1'⟩ h => by simp [rowsF_inj] at h; simp [h]
  ok := fun ⟨a, ⟨w, c⟩, h1⟩ => (F26 w c h1).ok a
  en := enters_of Try.func26 (by kernel_rfl)
theorem at26 {L : List Fm} (h : L.find? (fun G => G.k == 26) = some F26g) {w : List (Bool × List Int)} (hr : Rows47 w) (c : Bool) : H26 (famCtx L) w c := fun ro => fam_at h (ro, ⟨(w, c), hr⟩) rfl rfl
noncomputable def F47 : Fm where
  k := 47
  α := (Bool × Bool × Bool) × List Int × Nat
  f := fun x => [(x.1.1, .sl x.1.2.2 1 (ints x.2.1)), (x.1.2.1, .int .i64 x.2.2)]
  g := fun x => [.fv (.int .i64 (pickI x.2.1 x.2.2))]
  inj := fun ⟨⟨a, b, c⟩, l, n⟩ ⟨⟨a', b', c'⟩, l', n'⟩ h => by simp [ints_inj, Int.natCast_inj] at h; simp [h]
  ok := fun ⟨⟨a, b, c⟩, l, n⟩ => v47 _ (fam_ctx [F37i]) (at37 rfl) l n a b c
  en := enters_of Try.func47 (by kernel_rfl)
noncomputable def F41 : Fm where
  k := 41
  α := (Bool × Bool × Bool) × { n : Nat // n ≤ 8 } × List Int
  f := fun x => [(x.1.1, .int .i64 x.2.1.1), (x.1.2.1, .sl x.1.2.2 1 (ints x.2.2))]
  g := fun x => [.us 1 (ints (mixI x.2.1.1 x.2.2))]
  inj := fun ⟨⟨a, b, c⟩, ⟨n, hn⟩, l⟩ ⟨⟨a', b', c'⟩, ⟨n', hn'⟩, l'⟩ h => by simp [ints_inj, Int.natCast_inj] at h; simp [h]
  ok := fun ⟨⟨a, b, c⟩, ⟨n, hn⟩, l⟩ => v41 _ (fam_ctx [F37i, F47]) (at37 rfl) (fun bits i r1 r2 c => fam_at (F := F47) rfl ((r1, r2, c), bits, i) rfl rfl) n hn l a b c
  en := enters_of Try.func41 (by kernel_rfl)
theorem at41 {L : List Fm} (h : L.find? (fun G => G.k == 41) = some F41) {n : Nat} (hn : n ≤ 8) (bits : List Int) (r1 r2 c : Bool) : famCtx L 41 [(r1, .int .i64 n), (r2, .sl c 1 (ints bits))] = some [.us 1 (ints (mixI n bits))] := fam_at h ((r1, r2, c), ⟨n, hn⟩, bits) rfl rfl
theorem Rows47.set {w : List (Bool × List Int)} (hr : Rows47 w) {k : Nat} {p : Bool × List Int} (hp : p.2.length * 8 ≤ 140737488355328) : Rows47 (w.set k p) :=
  ⟨by rw [List.length_set]; exact hr.len, fun q hq => by
    rcases List.mem_or_eq_of_mem_set hq with h | h
    · exact hr.row q h
    · rw [h]; exact hp⟩
theorem law10 (w : List (Bool × List Int)) (c : Bool) (hr : Rows47 w) (nation : Int) (bits : List Int) (r1 r2 cb : Bool) : Valid Try.prog 10 [(false, .sl c 1 (rowsF w)), (r1, .int .i64 nation), (r2, .sl cb 1 (ints bits))] [.fv (.bool true)] :=
  v10 _ (fam_ctx [F39 w c hr, F26g, F40, F37i, F20, F41]) w c hr.len nation bits (fun ro => fam_at (F := F39 w c hr) rfl ro rfl rfl) (at26 rfl hr c) (at40 rfl) (at37 rfl) (fam_at (F := F20) rfl () rfl rfl) (fun hn r1 r2 c => at41 rfl hn bits r1 r2 c)
    (fun hok k hk => at26 rfl (hr.set (by
      have h8 := (okWishes_wish hok).few
      have := (mixI_ord w.length bits (by omega)).len
      show (mixI w.length bits).length * 8 ≤ 140737488355328
      omega)) false) (fun w h => wish_ok h) r1 r2 cb
end Go.Proofs.Ytoafhoihigfllaa.E
