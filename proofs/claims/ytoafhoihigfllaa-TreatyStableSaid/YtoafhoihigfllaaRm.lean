/-
  The chapter of the treaty: what has been said of the functions of the trade, gathered: deals by the program. Conditions: none.
-/
import Derived.Test.YtoafhoihigfllaaRl
import Derived.Test.YtoafhoihigfllaaRg
import Derived.Test.YtoafhoihigfllaaTq
namespace Go.Proofs.Ytoafhoihigfllaa.E
open Go Go.RowKit
set_option linter.unusedVariables false
set_option linter.unusedSimpArgs false
theorem ctrysF_inj : ∀ {w v : List Ctry}, ctrysF w = ctrysF v ↔ w = v
  | [], [] => by simp
  | [], y :: v => by simp [ctrysF]
  | x :: w, [] => by simp [ctrysF]
  | ⟨a, b, l⟩ :: w, ⟨a', b', l'⟩ :: v => by
    have ih := @ctrysF_inj w v
    simp only [ctrysF, List.map_cons, List.cons.injEq, ctryF, FV.agg.injEq, FV.int.injEq, FV.sl.injEq, true_and, and_true, ints_inj, Prod.mk.injEq] at ih ⊢
    rw [ih]
theorem cellsT_inj {t s : Trade} : cellsT t = cellsT s ↔ t = s := by
  obtain ⟨a, b, c, d⟩ := t
  obtain ⟨a', b', c', d'⟩ := s
  simp only [cellsT, List.cons.injEq, FV.sl.injEq, true_and, and_true, rowsF_inj, ctrysF_inj, Trade.mk.injEq, and_assoc]
theorem tradeF_inj {t s : Trade} : tradeF t = tradeF s ↔ t = s := by
  simp only [tradeF, FV.agg.injEq, cellsT_inj]
noncomputable def F32 : Fm where
  k := 32
  α := Bool × { t : Trade // Trade47 t }
  f := fun x => [(x.1, tradeF x.2.1)]
  g := fun x => [.fv (.int .i64 (codeT x.2.1))]
  inj := fun ⟨a, t, h1⟩ ⟨a', t', h1'⟩ h => by simp [tradeF_inj] at h; simp [h]
  ok := fun ⟨a, t, h1⟩ => v32 _ (fam_ctx [F51, F61]) (at51 rfl) (fun l n hl ro r2 c => fam_at (F := F61) rfl ((ro, r2, c), ⟨l, hl⟩, n) rfl rfl) t h1 a
  en := enters_of Try.func32 (by kernel_rfl)
theorem at32 {L : List Fm} (h : L.find? (fun G => G.k == 32) = some F32) {t : Trade} (ht : Trade47 t) (ro : Bool) : famCtx L 32 [(ro, tradeF t)] = some [.fv (.int .i64 (codeT t))] := fam_at h (ro, ⟨t, ht⟩) rfl rfl
noncomputable def F33 : Fm where
  k := 33
  α := Bool × { t : Trade // Trade47 t }
  f := fun x => [(x.1, tradeF x.2.1)]
  g := fun x => [.fv (.int .i64 (codeT x.2.1))]
  inj := fun ⟨a, t, h1⟩ ⟨a', t', h1'⟩ h => by simp [tradeF_inj] at h; simp [h]
  ok := fun ⟨a, t, h1⟩ => v33 _ (fam_ctx [F36, F40, F62]) (at36 rfl) (at40 rfl) (at62 rfl) t h1 a
  en := enters_of Try.func33 (by kernel_rfl)
theorem at33 {L : List Fm} (h : L.find? (fun G => G.k == 33) = some F33) {t : Trade} (ht : Trade47 t) (ro : Bool) : famCtx L 33 [(ro, tradeF t)] = some [.fv (.int .i64 (codeT t))] := fam_at h (ro, ⟨t, ht⟩) rfl rfl
noncomputable def F43 : Fm where
  k := 43
  α := { t : Trade // Trade47 t }
  f := fun x => [(false, tradeF x.1)]
  g := fun x => [.fv (.bool (okTrade x.1))]
  inj := fun ⟨t, h1⟩ ⟨t', h1'⟩ h => by simp [tradeF_inj] at h; simp [h]
  ok := fun ⟨t, h1⟩ => v43 _ (fam_ctx [F32, F36, F40]) (at36 rfl) (at40 rfl) t (at32 rfl h1 false)
  en := enters_of Try.func43 (by kernel_rfl)
theorem at43 {L : List Fm} (h : L.find? (fun G => G.k == 43) = some F43) {t : Trade} (ht : Trade47 t) : famCtx L 43 [(false, tradeF t)] = some [.fv (.bool (okTrade t))] := fam_at h ⟨t, ht⟩ rfl rfl
abbrev D8 := { l : List Int // l.length ≤ 8 }
noncomputable def F68 : Fm where
  k := 68
  α := (Bool × Bool × Bool) × D8 × Int
  f := fun x => [(x.1.1, .sl x.1.2.2 1 (ints x.2.1.1)), (x.1.2.1, .int .i64 x.2.2)]
  g := fun x => [.us 1 (ints (nn (sellN x.2.1.1 x.2.2)))]
  inj := fun ⟨⟨a, b, c⟩, ⟨l, hl⟩, n⟩ ⟨⟨a', b', c'⟩, ⟨l', hl'⟩, n'⟩ h => by simp [ints_inj, Int.natCast_inj] at h; simp [h]
  ok := fun ⟨⟨a, b, c⟩, ⟨l, hl⟩, n⟩ => v68 _ (fam_ctx []) l hl n a b c
  en := enters_of Try.func68 (by kernel_rfl)
theorem at68 {L : List Fm} (h : L.find? (fun G => G.k == 68) = some F68) : H68 (famCtx L) := fun d k hd r1 r2 c => fam_at h ((r1, r2, c), ⟨d, hd⟩, k) rfl rfl
noncomputable def F46 : Fm where
  k := 46
  α := (Bool × Bool × Bool) × D8 × Int
  f := fun x => [(x.1.1, .sl x.1.2.2 1 (ints x.2.1.1)), (x.1.2.1, .int .i64 x.2.2)]
  g := fun x => [.fv (.int .i64 (manyN x.2.1.1 x.2.2))]
  inj := fun ⟨⟨a, b, c⟩, ⟨l, hl⟩, n⟩ ⟨⟨a', b', c'⟩, ⟨l', hl'⟩, n'⟩ h => by simp [ints_inj, Int.natCast_inj] at h; simp [h]
  ok := fun ⟨⟨a, b, c⟩, ⟨l, hl⟩, n⟩ => v46 _ (fam_ctx []) l hl n a b c
  en := enters_of Try.func46 (by kernel_rfl)
def H46 (ctx : Ctx) : Prop := ∀ (d : List Int) (k : Int), d.length ≤ 8 → ∀ (r1 r2 c : Bool), ctx 46 [(r1, .sl c 1 (ints d)), (r2, .int .i64 k)] = some [.fv (.int .i64 (manyN d k))]
theorem at46 {L : List Fm} (h : L.find? (fun G => G.k == 46) = some F46) : H46 (famCtx L) := fun d k hd r1 r2 c => fam_at h ((r1, r2, c), ⟨d, hd⟩, k) rfl rfl
section
variable (t : Trade) (hT : TradeOk t)
theorem likes62 {t : Trade} (hT : TradeOk t) {c : Nat} (hc : c < t.co.length) : (likesAt t c).length < 2^62 := by
  rw [(hT.likes c hc).len]; have := hT.n; omega
noncomputable def F89 : Fm where
  k := 89
  α := (Bool × Bool) × { x : Nat × Nat // x.1 < t.co.length }
  f := fun x => [(x.1.1, .agg [.int .i64 x.2.1.2, .int .i64 x.2.1.1]), (x.1.2, .pt (cellsT t) 0)]
  g := fun x => [.fv (.int .i64 (rankN t x.2.1.1 x.2.1.2))]
  inj := fun ⟨⟨a, b⟩, ⟨c, k⟩, h1⟩ ⟨⟨a', b'⟩, ⟨c', k'⟩, h1'⟩ h => by simp [Int.natCast_inj] at h; simp [h]
  ok := fun ⟨⟨a, b⟩, ⟨c, k⟩, h1⟩ => v89 _ (fam_ctx [F78]) (at78 rfl) t c k h1 (likes62 hT h1) a b
  en := enters_of Try.func89 (by kernel_rfl)
theorem at89 {L : List Fm} (h : L.find? (fun G => G.k == 89) = some (F89 t hT)) (n : Nat) : H89 (famCtx L) t n := fun c k hc hk q1 q2 => fam_at h ((q1, q2), ⟨(c, k), hc⟩) rfl rfl
noncomputable def F85 : Fm where
  k := 85
  α := Unit
  f := fun _ => [(false, tradeF t)]
  g := fun _ => [.fv (.agg [.fn (.func 89) [] [.pt (cellsT t) 0]])]
  inj := fun _ _ _ => rfl
  ok := fun _ => v85 _ (fam_ctx []) t false
  en := enters_of Try.func85 (by kernel_rfl)
theorem at85 {L : List Fm} (h : L.find? (fun G => G.k == 85) = some (F85 t)) : H85 (famCtx L) t := fam_at h () rfl rfl
noncomputable def F72 : Fm where
  k := 72
  α := (Bool × Bool × Bool) × { x : List Nat × Nat // 0 < x.1.length ∧ x.1.length ≤ 8 ∧ (∀ k ∈ x.1, k < t.cu.length) ∧ x.2 < t.co.length }
  f := fun x => [(false, tradeF t), (x.1.1, .sl x.1.2.2 1 (ints (nn x.2.1.1))), (x.1.2.1, .int .i64 x.2.1.2)]
  g := fun x => [.fv (.int .i64 (worstN t x.2.1.2 x.2.1.1))]
  inj := fun ⟨⟨a, b, d⟩, ⟨l, c⟩, h1⟩ ⟨⟨a', b', d'⟩, ⟨l', c'⟩, h1'⟩ h => by simp [ints_inj, nn_inj, Int.natCast_inj] at h; simp [h]
  ok := fun ⟨⟨a, b, d⟩, ⟨l, c⟩, h1, h2, h3, h4⟩ => v72 _ (fam_ctx [F89 t hT, F85 t]) t t.cu.length (at89 t hT rfl _) (at85 t rfl) l h1 h2 h3 c h4 false a b d
  en := enters_of Try.func72 (by kernel_rfl)
theorem at72 {L : List Fm} (h : L.find? (fun G => G.k == 72) = some (F72 t hT)) : H72 (famCtx L) t t.cu.length := fun l c h1 h2 h3 h4 r2 r3 cl => fam_at h ((r2, r3, cl), ⟨(l, c), h1, h2, h3, h4⟩) rfl rfl
noncomputable def F70 : Fm where
  k := 70
  α := (Bool × Bool × Bool) × { x : List Int × Nat × Nat // x.1.length = t.cu.length ∧ x.2.1 < t.cu.length ∧ x.2.2 < t.co.length }
  f := fun x => [(false, tradeF t), (x.1.1, .sl x.1.2.2 1 (ints x.2.1.1)), (x.1.2.1, .agg [.int .i64 x.2.1.2.1, .int .i64 x.2.1.2.2])]
  g := fun x => [.fv (.bool (takesB t x.2.1.1 x.2.1.2.1 x.2.1.2.2))]
  inj := fun ⟨⟨a, b, d⟩, ⟨l, k, c⟩, h1⟩ ⟨⟨a', b', d'⟩, ⟨l', k', c'⟩, h1'⟩ h => by simp [ints_inj, nn_inj, Int.natCast_inj] at h; simp [h]
  ok := fun ⟨⟨a, b, d⟩, ⟨l, k, c⟩, h1, h2, h3⟩ => v70 _ (fam_ctx [F68, F72 t hT, F89 t hT, F85 t]) t (at68 rfl) l (by have := hT.n; simp only at h1; omega) (by simp only at h1; rw [h1]; exact at72 t hT rfl) (at89 t hT rfl _) (at85 t rfl) k c (by simp only at h1 h2; omega) h3 a b d
  en := enters_of Try.func70 (by kernel_rfl)
theorem at70 {L : List Fm} (h : L.find? (fun G => G.k == 70) = some (F70 t hT)) : H70 (famCtx L) t t.cu.length := fun l k c h1 h2 h3 r2 r3 cl => fam_at h ((r2, r3, cl), ⟨(l, k, c), h1, h2, h3⟩) rfl rfl
noncomputable def F69 : Fm where
  k := 69
  α := Nat × Int
  f := fun x => [(false, tradeF t), (false, .int .i64 x.1), (false, .int .i64 x.2)]
  g := fun x => [.fv (.fn (.func 84) [] (caps84 t x.1 x.2))]
  inj := fun ⟨a, b⟩ ⟨a', b'⟩ h => by simp [Int.natCast_inj] at h; simp [h]
  ok := fun ⟨a, b⟩ => v69 _ (fam_ctx []) t a b
  en := enters_of Try.func69 (by kernel_rfl)
theorem at69 {L : List Fm} (h : L.find? (fun G => G.k == 69) = some (F69 t)) : H69 (famCtx L) t := fun i th _ => fam_at h (i, th) rfl rfl
end
/-- the deals that are returned -/
noncomputable def dealsW (t : Trade) : List Int := if okTrade t then dealsOf t else []
theorem val34 (t : Trade) (ht : Trade47 t) : Valid Try.prog 34 [(false, tradeF t)] [.us 1 (ints (dealsW t)), .fv (.int .i64 (codeT t))] := by
  cases hok : okTrade t with
  | false =>
    rw [dealsW, codeT, hok]
    refine v34r _ (fam_ctx [F32]) t ?_
    have := at32 (L := [F32]) rfl ht false
    rw [codeT, hok] at this
    exact this
  | true =>
    have hT := okTrade_iff.mp hok
    rw [dealsW, codeT, hok]
    refine v34 _ (fam_ctx [F32, F69 t, F70 t hT, F68, F72 t hT]) t hT.row62 ?_ hT (at69 t rfl) (at70 t hT rfl) (at68 rfl) (at72 t hT rfl) hT.pairs (dealsOf t) (fun a d h1 h2 => dealsOf_eq hT h1 h2)
    have := at32 (L := [F32, F69 t, F70 t hT, F68, F72 t hT]) rfl ht false
    rw [codeT, hok] at this
    exact this
noncomputable def F34 : Fm where
  k := 34
  α := { t : Trade // Trade47 t }
  f := fun x => [(false, tradeF x.1)]
  g := fun x => [.us 1 (ints (dealsW x.1)), .fv (.int .i64 (codeT x.1))]
  inj := fun ⟨t, h1⟩ ⟨t', h1'⟩ h => by simp [tradeF_inj] at h; simp [h]
  ok := fun ⟨t, h1⟩ => val34 t h1
  en := enters_of Try.func34 (by kernel_rfl)
def H34 (ctx : Ctx) (t : Trade) : Prop := ctx 34 [(false, tradeF t)] = some [.us 1 (ints (dealsW t)), .fv (.int .i64 (codeT t))]
theorem at34 {L : List Fm} (h : L.find? (fun G => G.k == 34) = some F34) {t : Trade} (ht : Trade47 t) : H34 (famCtx L) t := fam_at h ⟨t, ht⟩ rfl rfl
noncomputable def F45 : Fm where
  k := 45
  α := (Bool × Bool × Bool) × { x : Trade × Nat // x.2 < x.1.cu.length ∧ (listAt x.1 x.2).length < 2^62 } × Int
  f := fun x => [(x.1.1, tradeF x.2.1.1.1), (x.1.2.1, .int .i64 x.2.1.1.2), (x.1.2.2, .int .i64 x.2.2)]
  g := fun x => [.fv (.int .i64 (placeT x.2.1.1.1 x.2.1.1.2 x.2.2))]
  inj := fun ⟨⟨a, b, d⟩, ⟨⟨t, i⟩, h1⟩, c⟩ ⟨⟨a', b', d'⟩, ⟨⟨t', i'⟩, h1'⟩, c'⟩ h => by simp [tradeF_inj, Int.natCast_inj] at h; simp [h]
  ok := fun ⟨⟨a, b, d⟩, ⟨⟨t, i⟩, h1, h2⟩, c⟩ => v45 _ (fam_ctx [F40]) (at40 rfl) t i h1 h2 c a b d
  en := enters_of Try.func45 (by kernel_rfl)
def H45 (ctx : Ctx) (t : Trade) : Prop := ∀ (i : Nat) (c : Int), i < t.cu.length → ∀ r1 r2 r3 : Bool, ctx 45 [(r1, tradeF t), (r2, .int .i64 i), (r3, .int .i64 c)] = some [.fv (.int .i64 (placeT t i c))]
theorem at45 {L : List Fm} (h : L.find? (fun G => G.k == 45) = some F45) {t : Trade} (hl : ∀ i, (listAt t i).length < 2^62) : H45 (famCtx L) t := fun i c hi r1 r2 r3 => fam_at h ((r1, r2, r3), ⟨(t, i), hi, hl i⟩, c) rfl rfl
end Go.Proofs.Ytoafhoihigfllaa.E
