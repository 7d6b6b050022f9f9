/-
  The chapter of the treaty: closed calls by evaluation: the examples of the chapter. Conditions: none. (The table is MADE BY A PROGRAM.)
-/
import Derived.Test.YtidiigajhbegeaaGc
import Derived.Test.YtidiigajhbegeaaTm
namespace Go.Proofs.Ytidiigajhbegeaa.E
open Go Go.RowKit
set_option linter.unusedVariables false
def toInts : List FV → Option (List Int)
  | [] => some []
  | .int .i64 n :: r => match toInts r with
    | some l => some (n :: l)
    | none => none
  | _ => none
theorem toInts_eq : ∀ {xs : List FV} {l : List Int}, toInts xs = some l → xs = ints l
  | [], l, h => by simp only [toInts, Option.some.injEq] at h; subst h; rfl
  | x :: r, l, h => by
    unfold toInts at h
    split at h
    · rename_i h0; cases h0
    · rename_i n r' e
      cases e
      split at h
      · rename_i l' hl
        simp only [Option.some.injEq] at h; subst h
        rw [toInts_eq hl]; rfl
      · cases h
    · cases h
def insert1 (x : Int) : List Int → List Int
  | [] => [x]
  | y :: r => if x ≤ y then x :: y :: r else y :: insert1 x r
def isort : List Int → List Int
  | [] => []
  | x :: r => insert1 x (isort r)
theorem insert1_perm (x : Int) : ∀ l, (insert1 x l).Perm (x :: l)
  | [] => .refl _
  | y :: r => by
    simp only [insert1]
    split
    · exact .refl _
    · exact (List.Perm.cons y (insert1_perm x r)).trans (.swap x y r)
theorem insert1_pw (x : Int) : ∀ {l : List Int}, l.Pairwise (· ≤ ·) → (insert1 x l).Pairwise (· ≤ ·)
  | [], _ => by simp [insert1]
  | y :: r, h => by
    simp only [insert1]
    have h' := List.pairwise_cons.1 h
    split
    · rename_i hxy
      refine List.pairwise_cons.2 ⟨fun z hz => ?_, h⟩
      rcases List.mem_cons.1 hz with rfl | hz
      · exact hxy
      · exact Int.le_trans hxy (h'.1 z hz)
    · rename_i hxy
      refine List.pairwise_cons.2 ⟨fun z hz => ?_, insert1_pw x h'.2⟩
      rcases List.mem_cons.1 ((insert1_perm x r).mem_iff.1 hz) with rfl | hz
      · omega
      · exact h'.1 z hz
theorem isort_perm : ∀ l, (isort l).Perm l
  | [] => .refl _
  | x :: r => (insert1_perm x _).trans (.cons x (isort_perm r))
theorem isort_pw : ∀ l, (isort l).Pairwise (· ≤ ·)
  | [] => .nil
  | x :: r => insert1_pw x (isort_pw r)
theorem isort_eq (l : List Int) : isort l = sorted l := by
  refine List.Perm.eq_of_pairwise (le := (· ≤ ·)) (fun a b _ _ h1 h2 => Int.le_antisymm h1 h2) (isort_pw l) ?_ ((isort_perm l).trans (List.mergeSort_perm l _).symm)
  have := List.pairwise_mergeSort (le := fun x y : Int => decide (x ≤ y)) (fun a b c h1 h2 => by simp at *; omega) (fun a b => by simp; omega) l
  simpa [sorted] using this
def libCtx : Ctx := fun k xs => if k = 41 then match xs with
    | [(_, .sl _ 1 ys)] => match toInts ys with
      | some l => if l.length * 8 ≤ 140737488355328 then some [.us 1 ys] else none
      | none => none
    | _ => none
  else none
def libSrt (k : FuncId) (sz : Nat) (xs : List FV) : Option (List FV) :=
  if k = 42 then if sz = 1 then match toInts xs with
    | some l => if l.length < 4611686018427387904 then some (ints (isort l)) else none
    | none => none
  else none else none
noncomputable def base0 : Pg := { pg libCtx with srt := libSrt }
theorem enters81 : Enters Try.prog 41 := ⟨_, Try.func41, rfl, by kernel_rfl⟩
theorem enters82 : Enters Try.prog 42 := ⟨_, Try.func42, rfl, by kernel_rfl⟩
theorem tok0 : TOk base0 := ⟨(tok libCtx).tt, (tok libCtx).ee, (tok libCtx).kk, (tok libCtx).zv⟩
theorem ctx0 : CtxOk base0 := by
  refine ⟨fun k xs res h => ?_, fun k cells xs res h => (by cases h), fun k sz xs ys h => ?_, fun k d σ args σ' vs h => (by cases h), fun k caps xs h => (by cases h), fun k caps xs i h => (by cases h), fun k bs caps xs h => (by cases h)⟩
  · have h' : libCtx k xs = some res := h
    unfold libCtx at h'
    split at h'
    · rename_i hk
      subst hk
      split at h'
      · rename_i ro c ys
        split at h'
        · rename_i l hl
          split at h'
          · rename_i hb
            simp only [Option.some.injEq] at h'; subst h'
            rw [toInts_eq hl]
            exact ⟨clone_row l hb ro c, enters81⟩
          · cases h'
        · cases h'
      · cases h'
    · cases h'
  · have h' : libSrt k sz xs = some ys := h
    unfold libSrt at h'
    split at h'
    · rename_i hk
      subst hk
      split at h'
      · rename_i hz
        subst hz
        split at h'
        · rename_i l hl
          split at h'
          · rename_i hb
            simp only [Option.some.injEq] at h'; subst h'
            rw [toInts_eq hl, isort_eq]
            exact ⟨sort_row l hb, enters82⟩
          · cases h'
        · cases h'
      · cases h'
    · cases h'
noncomputable def TT : FnTab := [(3, ⟨Try.f3, L3, T3, true, false, [144, 145, 146, 147, 148, 149]⟩),
  (4, ⟨Try.f4, L4, T4, true, false, []⟩),
  (5, ⟨Try.f5, L5, T5, true, false, []⟩),
  (6, ⟨Try.f6, L6, T6, true, false, []⟩),
  (7, ⟨Try.f7, L7, T7, true, false, []⟩),
  (8, ⟨Try.f8, L8, T8, true, false, []⟩),
  (9, ⟨Try.f9, L9, T9, true, false, []⟩),
  (10, ⟨Try.f10, L10, T10, true, false, []⟩),
  (11, ⟨Try.f11, L11, T11, true, false, []⟩),
  (12, ⟨Try.f12, L12, T12, true, false, []⟩),
  (13, ⟨Try.f13, L13, T13, true, false, []⟩),
  (14, ⟨Try.f14, L14, T14, true, false, []⟩),
  (15, ⟨Try.f15, L15, T15, true, false, []⟩),
  (16, ⟨Try.f16, L16, T16, true, false, []⟩),
  (17, ⟨Try.f17, L17, T17, true, false, []⟩),
  (18, ⟨Try.f18, L18, T18, true, false, []⟩),
  (19, ⟨Try.f19, L19, T19, true, false, []⟩),
  (20, ⟨Try.f20, L20, T20, true, false, []⟩),
  (21, ⟨Try.f21, L21, T21, true, false, []⟩),
  (22, ⟨Try.f22, L22, T22, true, false, []⟩),
  (23, ⟨Try.f23, L23, T23, false, false, []⟩),
  (24, ⟨Try.f24, L24, T24, true, false, []⟩),
  (25, ⟨Try.f25, L25, T25, true, false, []⟩),
  (26, ⟨Try.f26, L26, T26, true, false, []⟩),
  (27, ⟨Try.f27, L27, T27, true, false, []⟩),
  (28, ⟨Try.f28, L28, T28, true, false, []⟩),
  (29, ⟨Try.f29, L29, T29, true, false, []⟩),
  (30, ⟨Try.f30, L30, T30, true, false, []⟩),
  (31, ⟨Try.f31, L31, T31, true, false, []⟩),
  (32, ⟨Try.f32, L32, T32, true, false, []⟩),
  (33, ⟨Try.f33, L33, T33, true, false, []⟩),
  (34, ⟨Try.f34, L34, T34, true, false, []⟩),
  (35, ⟨Try.f35, L35, T35, true, false, []⟩),
  (36, ⟨Try.f36, L36, T36, true, false, []⟩),
  (37, ⟨Try.f37, L37, T37, true, false, []⟩),
  (38, ⟨Try.f38, L38, T38, true, true, []⟩),
  (39, ⟨Try.f39, L39, T39, true, false, []⟩),
  (40, ⟨Try.f40, L40, T40, true, false, []⟩),
  (43, ⟨Try.f43, L43, T43, true, false, []⟩),
  (44, ⟨Try.f44, L44, T44, true, false, []⟩),
  (45, ⟨Try.f45, L45, T45, true, false, []⟩),
  (46, ⟨Try.f46, L46, T46, true, false, []⟩),
  (47, ⟨Try.f47, L47, T47, true, false, []⟩),
  (50, ⟨Try.f50, L50, T50, true, false, []⟩)]
theorem tt_chk : (TT.all fun e => fnChk e.2) = true := by kernel_rfl
theorem tt_ok : TabOk Try.prog TT := ⟨⟨Try.func3, by kernel_rfl⟩, ⟨Try.func4, by kernel_rfl⟩, ⟨Try.func5, by kernel_rfl⟩, ⟨Try.func6, by kernel_rfl⟩, ⟨Try.func7, by kernel_rfl⟩, ⟨Try.func8, by kernel_rfl⟩, ⟨Try.func9, by kernel_rfl⟩, ⟨Try.func10, by kernel_rfl⟩, ⟨Try.func11, by kernel_rfl⟩, ⟨Try.func12, by kernel_rfl⟩, ⟨Try.func13, by kernel_rfl⟩, ⟨Try.func14, by kernel_rfl⟩, ⟨Try.func15, by kernel_rfl⟩, ⟨Try.func16, by kernel_rfl⟩, ⟨Try.func17, by kernel_rfl⟩, ⟨Try.func18, by kernel_rfl⟩, ⟨Try.func19, by kernel_rfl⟩, ⟨Try.func20, by kernel_rfl⟩, ⟨Try.func21, by kernel_rfl⟩, ⟨Try.func22, by kernel_rfl⟩, ⟨Try.func23, by kernel_rfl⟩, ⟨Try.func24, by kernel_rfl⟩, ⟨Try.func25, by kernel_rfl⟩, ⟨Try.func26, by kernel_rfl⟩, ⟨Try.func27, by kernel_rfl⟩, ⟨Try.func28, by kernel_rfl⟩, ⟨Try.func29, by kernel_rfl⟩, ⟨Try.func30, by kernel_rfl⟩, ⟨Try.func31, by kernel_rfl⟩, ⟨Try.func32, by kernel_rfl⟩, ⟨Try.func33, by kernel_rfl⟩, ⟨Try.func34, by kernel_rfl⟩, ⟨Try.func35, by kernel_rfl⟩, ⟨Try.func36, by kernel_rfl⟩, ⟨Try.func37, by kernel_rfl⟩, ⟨Try.func38, by kernel_rfl⟩, ⟨Try.func39, by kernel_rfl⟩, ⟨Try.func40, by kernel_rfl⟩, ⟨Try.func43, by kernel_rfl⟩, ⟨Try.func44, by kernel_rfl⟩, ⟨Try.func45, by kernel_rfl⟩, ⟨Try.func46, by kernel_rfl⟩, ⟨Try.func47, by kernel_rfl⟩, ⟨Try.func50, by kernel_rfl⟩, trivial⟩
theorem ev_ok (n : Nat) : CtxOk (evG base0 TT n) := evG_ok tok0 ctx0 rfl mixed tt_ok n
end Go.Proofs.Ytidiigajhbegeaa.E
