/-
  The chapter of the treaty: closed calls by evaluation: the examples of the chapter. Conditions: none. (The table is MADE BY A PROGRAM.)
-/
import Derived.Test.YtoafhoihigfllaaGc
import Derived.Test.YtoafhoihigfllaaTm
namespace Go.Proofs.Ytoafhoihigfllaa.E
open Go Go.RowKit
set_option linter.unusedVariables false
def toInts : List FV → Option (List Int)
  | [] => some []
  | .int .i64 n :: r => match toInts r with
    | some l => some (n :: l)
    | none => none
  | _ => none
theorem toInts_eq : ∀ {xs : List FV} {l : List Int}, toInts xs = some l → xs = ints l
  | [], l, h => by simp only [toInts, Option.some.injEq] at h; subst h; rfl
  | x :: r, l, h => by
    unfold toInts at h
    split at h
    · rename_i h0; cases h0
    · rename_i n r' e
      cases e
      split at h
      · rename_i l' hl
        simp only [Option.some.injEq] at h; subst h
        rw [toInts_eq hl]; rfl
      · cases h
    · cases h
def insert1 (x : Int) : List Int → List Int
  | [] => [x]
  | y :: r => if x ≤ y then x :: y :: r else y :: insert1 x r
def isort : List Int → List Int
  | [] => []
  | x :: r => insert1 x (isort r)
theorem insert1_perm (x : Int) : ∀ l, (insert1 x l).Perm (x :: l)
  | [] => .refl _
  | y :: r => by
    simp only [insert1]
    split
    · exact .refl _
    · exact (List.Perm.cons y (insert1_perm x r)).trans (.swap x y r)
theorem insert1_pw (x : Int) : ∀ {l : List Int}, l.Pairwise (· ≤ ·) → (insert1 x l).Pairwise (· ≤ ·)
  | [], _ => by simp [insert1]
  | y :: r, h => by
    simp only [insert1]
    have h' := List.pairwise_cons.1 h
    split
    · rename_i hxy
      refine List.pairwise_cons.2 ⟨fun z hz => ?_, h⟩
      rcases List.mem_cons.1 hz with rfl | hz
      · exact hxy
      · exact Int.le_trans hxy (h'.1 z hz)
    · rename_i hxy
      refine List.pairwise_cons.2 ⟨fun z hz => ?_, insert1_pw x h'.2⟩
      rcases List.mem_cons.1 ((insert1_perm x r).mem_iff.1 hz) with rfl | hz
      · omega
      · exact h'.1 z hz
theorem isort_perm : ∀ l, (isort l).Perm l
  | [] => .refl _
  | x :: r => (insert1_perm x _).trans (.cons x (isort_perm r))
theorem isort_pw : ∀ l, (isort l).Pairwise (· ≤ ·)
  | [] => .nil
  | x :: r => insert1_pw x (isort_pw r)
theorem isort_eq (l : List Int) : isort l = sorted l := by
  refine List.Perm.eq_of_pairwise (le := (· ≤ ·)) (fun a b _ _ h1 h2 => Int.le_antisymm h1 h2) (isort_pw l) ?_ ((isort_perm l).trans (List.mergeSort_perm l _).symm)
  have := List.pairwise_mergeSort (le := fun x y : Int => decide (x ≤ y)) (fun a b c h1 h2 => by simp at *; omega) (fun a b => by simp; omega) l
  simpa [sorted] using this
def libCtx : Ctx := fun k xs => if k = 81 then match xs with
    | [(_, .sl _ 1 ys)] => match toInts ys with
      | some l => if l.length * 8 ≤ 140737488355328 then some [.us 1 ys] else none
      | none => none
    | _ => none
  else none
def libSrt (k : FuncId) (sz : Nat) (xs : List FV) : Option (List FV) :=
  if k = 82 then if sz = 1 then match toInts xs with
    | some l => if l.length < 4611686018427387904 then some (ints (isort l)) else none
    | none => none
  else none else none
noncomputable def base0 : Pg := { pg libCtx with srt := libSrt }
theorem enters81 : Enters Try.prog 81 := ⟨_, Try.func81, rfl, by kernel_rfl⟩
theorem enters82 : Enters Try.prog 82 := ⟨_, Try.func82, rfl, by kernel_rfl⟩
theorem tok0 : TOk base0 := ⟨(tok libCtx).tt, (tok libCtx).ee, (tok libCtx).kk, (tok libCtx).zv⟩
theorem ctx0 : CtxOk base0 := by
  refine ⟨fun k xs res h => ?_, fun k cells xs res h => (by cases h), fun k sz xs ys h => ?_, fun k d σ args σ' vs h => (by cases h), fun k caps xs h => (by cases h), fun k caps xs i h => (by cases h)⟩
  · have h' : libCtx k xs = some res := h
    unfold libCtx at h'
    split at h'
    · rename_i hk
      subst hk
      split at h'
      · rename_i ro c ys
        split at h'
        · rename_i l hl
          split at h'
          · rename_i hb
            simp only [Option.some.injEq] at h'; subst h'
            rw [toInts_eq hl]
            exact ⟨clone_row l hb ro c, enters81⟩
          · cases h'
        · cases h'
      · cases h'
    · cases h'
  · have h' : libSrt k sz xs = some ys := h
    unfold libSrt at h'
    split at h'
    · rename_i hk
      subst hk
      split at h'
      · rename_i hz
        subst hz
        split at h'
        · rename_i l hl
          split at h'
          · rename_i hb
            simp only [Option.some.injEq] at h'; subst h'
            rw [toInts_eq hl, isort_eq]
            exact ⟨sort_row l hb, enters82⟩
          · cases h'
        · cases h'
      · cases h'
    · cases h'
noncomputable def TT : FnTab := [(15, ⟨Try.f15, L15, T15, true, false⟩),
  (16, ⟨Try.f16, L16, T16, true, false⟩),
  (17, ⟨Try.f17, L17, T17, true, false⟩),
  (18, ⟨Try.f18, L18, T18, true, false⟩),
  (19, ⟨Try.f19, L19, T19, true, false⟩),
  (20, ⟨Try.f20, L20, T20, true, false⟩),
  (21, ⟨Try.f21, L21, T21, true, false⟩),
  (22, ⟨Try.f22, L22, T22, true, false⟩),
  (23, ⟨Try.f23, L23, T23, true, false⟩),
  (24, ⟨Try.f24, L24, T24, true, false⟩),
  (25, ⟨Try.f25, L25, T25, true, false⟩),
  (26, ⟨Try.f26, L26, T26, true, false⟩),
  (27, ⟨Try.f27, L27, T27, true, false⟩),
  (28, ⟨Try.f28, L28, T28, true, false⟩),
  (29, ⟨Try.f29, L29, T29, true, false⟩),
  (30, ⟨Try.f30, L30, T30, true, false⟩),
  (31, ⟨Try.f31, L31, T31, true, false⟩),
  (32, ⟨Try.f32, L32, T32, true, false⟩),
  (33, ⟨Try.f33, L33, T33, true, false⟩),
  (34, ⟨Try.f34, L34, T34, true, false⟩),
  (35, ⟨Try.f35, L35, T35, true, false⟩),
  (36, ⟨Try.f36, L36, T36, true, false⟩),
  (37, ⟨Try.f37, L37, T37, true, false⟩),
  (38, ⟨Try.f38, L38, T38, true, false⟩),
  (39, ⟨Try.f39, L39, T39, true, false⟩),
  (40, ⟨Try.f40, L40, T40, true, false⟩),
  (41, ⟨Try.f41, L41, T41, true, false⟩),
  (42, ⟨Try.f42, L42, T42, true, false⟩),
  (43, ⟨Try.f43, L43, T43, true, false⟩),
  (44, ⟨Try.f44, L44, T44, true, false⟩),
  (45, ⟨Try.f45, L45, T45, true, false⟩),
  (46, ⟨Try.f46, L46, T46, true, false⟩),
  (47, ⟨Try.f47, L47, T47, true, false⟩),
  (48, ⟨Try.f48, L48, T48, true, false⟩),
  (49, ⟨Try.f49, L49, T49, true, false⟩),
  (50, ⟨Try.f50, L50, T50, true, false⟩),
  (51, ⟨Try.f51, L51, T51, true, false⟩),
  (52, ⟨Try.f52, L52, T52, true, false⟩),
  (53, ⟨Try.f53, L53, T53, true, false⟩),
  (54, ⟨Try.f54, L54, T54, true, false⟩),
  (55, ⟨Try.f55, L55, T55, true, false⟩),
  (56, ⟨Try.f56, L56, T56, true, false⟩),
  (57, ⟨Try.f57, L57, T57, false, false⟩),
  (58, ⟨Try.f58, L58, T58, true, false⟩),
  (59, ⟨Try.f59, L59, T59, true, false⟩),
  (60, ⟨Try.f60, L60, T60, true, false⟩),
  (61, ⟨Try.f61, L61, T61, true, false⟩),
  (62, ⟨Try.f62, L62, T62, true, false⟩),
  (63, ⟨Try.f63, L63, T63, true, false⟩),
  (64, ⟨Try.f64, L64, T64, true, false⟩),
  (65, ⟨Try.f65, L65, T65, true, false⟩),
  (66, ⟨Try.f66, L66, T66, true, false⟩),
  (67, ⟨Try.f67, L67, T67, true, false⟩),
  (68, ⟨Try.f68, L68, T68, true, false⟩),
  (69, ⟨Try.f69, L69, T69, true, false⟩),
  (70, ⟨Try.f70, L70, T70, true, false⟩),
  (71, ⟨Try.f71, L71, T71, true, false⟩),
  (72, ⟨Try.f72, L72, T72, true, false⟩),
  (73, ⟨Try.f73, L73, T73, true, false⟩),
  (74, ⟨Try.f74, L74, T74, true, false⟩),
  (75, ⟨Try.f75, L75, T75, true, false⟩),
  (76, ⟨Try.f76, L76, T76, true, false⟩),
  (77, ⟨Try.f77, L77, T77, true, true⟩),
  (78, ⟨Try.f78, L78, T78, true, false⟩),
  (79, ⟨Try.f79, L79, T79, true, false⟩),
  (80, ⟨Try.f80, L80, T80, true, false⟩),
  (83, ⟨Try.f83, L83, T83, true, false⟩),
  (84, ⟨Try.f84, L84, T84, true, false⟩),
  (85, ⟨Try.f85, L85, T85, true, false⟩),
  (86, ⟨Try.f86, L86, T86, true, false⟩),
  (89, ⟨Try.f89, L89, T89, true, false⟩)]
theorem tt_chk : (TT.all fun e => fnChk e.2) = true := by kernel_rfl
theorem tt_ok : TabOk Try.prog TT := ⟨⟨Try.func15, by kernel_rfl⟩, ⟨Try.func16, by kernel_rfl⟩, ⟨Try.func17, by kernel_rfl⟩, ⟨Try.func18, by kernel_rfl⟩, ⟨Try.func19, by kernel_rfl⟩, ⟨Try.func20, by kernel_rfl⟩, ⟨Try.func21, by kernel_rfl⟩, ⟨Try.func22, by kernel_rfl⟩, ⟨Try.func23, by kernel_rfl⟩, ⟨Try.func24, by kernel_rfl⟩, ⟨Try.func25, by kernel_rfl⟩, ⟨Try.func26, by kernel_rfl⟩, ⟨Try.func27, by kernel_rfl⟩, ⟨Try.func28, by kernel_rfl⟩, ⟨Try.func29, by kernel_rfl⟩, ⟨Try.func30, by kernel_rfl⟩, ⟨Try.func31, by kernel_rfl⟩, ⟨Try.func32, by kernel_rfl⟩, ⟨Try.func33, by kernel_rfl⟩, ⟨Try.func34, by kernel_rfl⟩, ⟨Try.func35, by kernel_rfl⟩, ⟨Try.func36, by kernel_rfl⟩, ⟨Try.func37, by kernel_rfl⟩, ⟨Try.func38, by kernel_rfl⟩, ⟨Try.func39, by kernel_rfl⟩, ⟨Try.func40, by kernel_rfl⟩, ⟨Try.func41, by kernel_rfl⟩, ⟨Try.func42, by kernel_rfl⟩, ⟨Try.func43, by kernel_rfl⟩, ⟨Try.func44, by kernel_rfl⟩, ⟨Try.func45, by kernel_rfl⟩, ⟨Try.func46, by kernel_rfl⟩, ⟨Try.func47, by kernel_rfl⟩, ⟨Try.func48, by kernel_rfl⟩, ⟨Try.func49, by kernel_rfl⟩, ⟨Try.func50, by kernel_rfl⟩, ⟨Try.func51, by kernel_rfl⟩, ⟨Try.func52, by kernel_rfl⟩, ⟨Try.func53, by kernel_rfl⟩, ⟨Try.func54, by kernel_rfl⟩, ⟨Try.func55, by kernel_rfl⟩, ⟨Try.func56, by kernel_rfl⟩, ⟨Try.func57, by kernel_rfl⟩, ⟨Try.func58, by kernel_rfl⟩, ⟨Try.func59, by kernel_rfl⟩, ⟨Try.func60, by kernel_rfl⟩, ⟨Try.func61, by kernel_rfl⟩, ⟨Try.func62, by kernel_rfl⟩, ⟨Try.func63, by kernel_rfl⟩, ⟨Try.func64, by kernel_rfl⟩, ⟨Try.func65, by kernel_rfl⟩, ⟨Try.func66, by kernel_rfl⟩, ⟨Try.func67, by kernel_rfl⟩, ⟨Try.func68, by kernel_rfl⟩, ⟨Try.func69, by kernel_rfl⟩, ⟨Try.func70, by kernel_rfl⟩, ⟨Try.func71, by kernel_rfl⟩, ⟨Try.func72, by kernel_rfl⟩, ⟨Try.func73, by kernel_rfl⟩, ⟨Try.func74, by kernel_rfl⟩, ⟨Try.func75, by kernel_rfl⟩, ⟨Try.func76, by kernel_rfl⟩, ⟨Try.func77, by kernel_rfl⟩, ⟨Try.func78, by kernel_rfl⟩, ⟨Try.func79, by kernel_rfl⟩, ⟨Try.func80, by kernel_rfl⟩, ⟨Try.func83, by kernel_rfl⟩, ⟨Try.func84, by kernel_rfl⟩, ⟨Try.func85, by kernel_rfl⟩, ⟨Try.func86, by kernel_rfl⟩, ⟨Try.func89, by kernel_rfl⟩, trivial⟩
theorem ev_ok (n : Nat) : CtxOk (evG base0 TT n) := evG_ok tok0 ctx0 rfl mixed tt_ok n
end Go.Proofs.Ytoafhoihigfllaa.E
