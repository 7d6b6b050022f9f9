/-
  The chapter of the treaty: what has been said of Stable and of deals by the document, gathered. Conditions: none.
-/
import Derived.Test.YtoafhoihigfllaaSn
import Derived.Test.YtoafhoihigfllaaSk
namespace Go.Proofs.Ytoafhoihigfllaa.E
open Go Go.RowKit
set_option linter.unusedVariables false
set_option linter.unusedSimpArgs false
theorem Trade47.row62 {t : Trade} (h : Trade47 t) (i : Nat) : (listAt t i).length < 2^62 := by
  by_cases hi : i < t.cu.length
  · have := h.cu _ (List.getElem_mem hi)
    rw [listAt_get hi]; omega
  · simp [listAt, List.getD_eq_getElem?_getD, List.getElem?_eq_none (show t.cu.length ≤ i by omega)]
section
variable (t : Trade) (ht : Trade47 t)
noncomputable def F66 : Fm where
  k := 66
  α := (Bool × Bool) × Int
  f := fun x => [(x.1.1, .int .i64 x.2), (x.1.2, .pt (cellsT t) 0)]
  g := fun x => [.fv (.bool (badD t.co.length x.2))]
  inj := fun ⟨⟨a, b⟩, n⟩ ⟨⟨a', b'⟩, n'⟩ h => by simp at h; simp [h]
  ok := fun ⟨⟨a, b⟩, n⟩ => v66 _ (fam_ctx [F51]) (at51 rfl) t ht.col n a b
  en := enters_of Try.func66 (by kernel_rfl)
noncomputable def F75s : Fm where
  k := 75
  α := (Bool × Bool × Bool) × Sm
  f := fun x => [(x.1.1, .sl x.1.2.1 1 (ints x.2.1)), (x.1.2.2, .fn (.func 66) [] [.pt (cellsT t) 0])]
  g := fun x => [.fv (.int .i64 (idx (badD t.co.length) x.2.1))]
  inj := fun ⟨⟨a, b, c⟩, l, h1⟩ ⟨⟨a', b', c'⟩, l', h1'⟩ h => by simp [ints_inj] at h; simp [h]
  ok := fun ⟨⟨a, b, c⟩, l, h1⟩ => v75 _ (fam_ctx [F66 t ht]) 66 (badD t.co.length) l h1 a c b [.pt (cellsT t) 0] fun x _ q => fam_at (F := F66 t ht) rfl ((q, c), x) rfl rfl
  en := enters_of Try.func75 (by kernel_rfl)
noncomputable def F52s : Fm where
  k := 52
  α := (Bool × Bool × Bool) × Sm
  f := fun x => [(x.1.1, .sl x.1.2.1 1 (ints x.2.1)), (x.1.2.2, .fn (.func 66) [] [.pt (cellsT t) 0])]
  g := fun x => [.fv (.bool (x.2.1.any (badD t.co.length)))]
  inj := fun ⟨⟨a, b, c⟩, l, h1⟩ ⟨⟨a', b', c'⟩, l', h1'⟩ h => by simp [ints_inj] at h; simp [h]
  ok := fun ⟨⟨a, b, c⟩, l, h1⟩ => v52 _ (fam_ctx [F75s t ht]) 66 (badD t.co.length) [.pt (cellsT t) 0] (fun l ro rf c hl => fam_at (F := F75s t ht) rfl ((ro, c, rf), ⟨l, hl⟩) rfl rfl) l h1 a c b
  en := enters_of Try.func52 (by kernel_rfl)
noncomputable def F67 : Fm where
  k := 67
  α := Unit
  f := fun _ => [(false, tradeF t)]
  g := fun _ => [.fv (.agg [.fn (.func 83) [] [.pt (cellsT t) 0]])]
  inj := fun _ _ _ => rfl
  ok := fun _ => v67 _ (fam_ctx []) t
  en := enters_of Try.func67 (by kernel_rfl)
noncomputable def F83 : Fm where
  k := 83
  α := (Bool × Bool) × { x : Nat × Int // x.1 < t.cu.length }
  f := fun x => [(x.1.1, .agg [.int .i64 x.2.1.1, .int .i64 x.2.1.2]), (x.1.2, .pt (cellsT t) 0)]
  g := fun x => [.fv (.int .i64 (idx (· == x.2.1.2) (listAt t x.2.1.1)))]
  inj := fun ⟨⟨a, b⟩, ⟨i, c⟩, h1⟩ ⟨⟨a', b'⟩, ⟨i', c'⟩, h1'⟩ h => by simp [Int.natCast_inj] at h; simp [h]
  ok := fun ⟨⟨a, b⟩, ⟨i, c⟩, h1⟩ => v83 _ (fam_ctx [F78]) (at78 rfl) t i c h1 (ht.row62 i) a b
  en := enters_of Try.func83 (by kernel_rfl)
include ht in
theorem val30 (d : List Int) (hd : d.length < 2^62) (r2 cl : Bool) : Valid Try.prog 30 [(false, tradeF t), (r2, .sl cl 1 (ints d))] [.fv (.bool (valS t d)), .fv (.int .i64 (codeS t d))] := by
  cases hok : okTrade t with
  | false => exact v30 _ (fam_ctx [F32, F52s t ht, F67 t, F83 t ht, F68, F69 t]) t ht.col d hd ht.row62 r2 cl (at32 rfl ht false) (fun l ro rf c hl => fam_at (F := F52s t ht) rfl ((ro, c, rf), ⟨l, hl⟩) rfl rfl) (fam_at (F := F67 t) rfl () rfl rfl) (fun i c hi q1 q2 => fam_at (F := F83 t ht) rfl ((q1, q2), ⟨(i, c), hi⟩) rfl rfl) (at68 rfl) (at69 t rfl) (fun h => by rw [hok] at h; cases h)
  | true =>
    have hT := okTrade_iff.mp hok
    exact v30 _ (fam_ctx [F32, F52s t ht, F67 t, F83 t ht, F68, F69 t, F70 t hT]) t ht.col d hd ht.row62 r2 cl (at32 rfl ht false) (fun l ro rf c hl => fam_at (F := F52s t ht) rfl ((ro, c, rf), ⟨l, hl⟩) rfl rfl) (fam_at (F := F67 t) rfl () rfl rfl) (fun i c hi q1 q2 => fam_at (F := F83 t ht) rfl ((q1, q2), ⟨(i, c), hi⟩) rfl rfl) (at68 rfl) (at69 t rfl) (fun h => at70 t hT rfl)
end
noncomputable def F30 : Fm where
  k := 30
  α := (Bool × Bool) × { t : Trade // Trade47 t } × Sm
  f := fun x => [(false, tradeF x.2.1.1), (x.1.1, .sl x.1.2 1 (ints x.2.2.1))]
  g := fun x => [.fv (.bool (valS x.2.1.1 x.2.2.1)), .fv (.int .i64 (codeS x.2.1.1 x.2.2.1))]
  inj := fun ⟨⟨a, b⟩, ⟨t, h1⟩, ⟨d, h2⟩⟩ ⟨⟨a', b'⟩, ⟨t', h1'⟩, ⟨d', h2'⟩⟩ h => by simp [tradeF_inj, ints_inj] at h; simp [h]
  ok := fun ⟨⟨a, b⟩, ⟨t, h1⟩, ⟨d, h2⟩⟩ => val30 t h1 d h2 a b
  en := enters_of Try.func30 (by kernel_rfl)
theorem at30 {L : List Fm} (h : L.find? (fun G => G.k == 30) = some F30) {t : Trade} (ht : Trade47 t) (d : List Int) (hd : d.length < 2^62) (r2 cl : Bool) : famCtx L 30 [(false, tradeF t), (r2, .sl cl 1 (ints d))] = some [.fv (.bool (valS t d)), .fv (.int .i64 (codeS t d))] := fam_at h ((r2, cl), ⟨t, ht⟩, ⟨d, hd⟩) rfl rfl
section
variable (t : Trade) (hT : TradeOk t)
noncomputable def F73 : Fm where
  k := 73
  α := (Bool × Bool × Bool × Bool) × { x : List Int × Nat // x.1.length = t.cu.length ∧ x.2 < t.co.length }
  f := fun x => [(x.1.1, tradeF t), (x.1.2.1, .sl x.1.2.2.2 1 (ints x.2.1.1)), (x.1.2.2.1, .int .i64 x.2.1.2)]
  g := fun x => [.fv (.int .i64 (sellN x.2.1.1 x.2.1.2).length), .fv (.int .i64 (leastN t x.2.1.1 x.2.1.2))]
  inj := fun ⟨⟨a, b, c, e⟩, ⟨l, k⟩, h1⟩ ⟨⟨a', b', c', e'⟩, ⟨l', k'⟩, h1'⟩ h => by simp [ints_inj, Int.natCast_inj] at h; simp [h]
  ok := fun ⟨⟨a, b, c, e⟩, ⟨d, k⟩, h1, h2⟩ => by
    have h := v73 _ (fam_ctx []) t d k h2 (by simp only at h1 h2; rw [h1]; exact hT.likes k h2) (by have := hT.n; simp only at h1; omega) a b c e
    rw [tkn_eq hT h1 h2] at h
    exact h
  en := enters_of Try.func73 (by kernel_rfl)
theorem at73 {L : List Fm} (h : L.find? (fun G => G.k == 73) = some (F73 t hT)) : H73 (famCtx L) t := fun d c hd hc r1 r2 r3 cl => fam_at h ((r1, r2, r3, cl), ⟨(d, c), hd, hc⟩) rfl rfl
noncomputable def F71 (hfl : ∀ p ∈ t.cu, p.1 = false) : Fm where
  k := 71
  α := (Bool × Bool × Bool) × { d : List Int // d.length = t.cu.length ∧ ∀ i, i < t.cu.length → -1 ≤ d.getD i 0 ∧ d.getD i 0 < t.co.length }
  f := fun x => [(x.1.1, tradeF t), (x.1.2.1, .sl x.1.2.2 1 (ints x.2.1))]
  g := fun x => [.fv (.bool (stabB t x.2.1))]
  inj := fun ⟨⟨a, b, c⟩, l, h1⟩ ⟨⟨a', b', c'⟩, l', h1'⟩ h => by simp [ints_inj] at h; simp [h]
  ok := fun ⟨⟨a, b, c⟩, d, h1, h2⟩ => v71 _ (fam_ctx [F73 t hT, F40]) t hT hfl d h1 h2 (at73 t hT rfl) (at40 rfl) a b c
  en := enters_of Try.func71 (by kernel_rfl)
end
theorem val31 (t : Trade) (ht : Trade47 t) (hfl : ∀ p ∈ t.cu, p.1 = false) (d : List Int) (hd : d.length < 2^62) (r1 r2 cl : Bool) : Valid Try.prog 31 [(r1, tradeF t), (r2, .sl cl 1 (ints d))] [.fv (.bool (valS t d)), .fv (.int .i64 (codeS t d))] := by
  cases hok : okTrade t with
  | false => exact v31 _ (fam_ctx [F33, F36]) t d hd ht.col r1 r2 cl (at33 rfl ht r1) (at36 rfl) (fun h => by rw [hok] at h; cases h)
  | true =>
    have hT := okTrade_iff.mp hok
    exact v31 _ (fam_ctx [F33, F36, F71 t hT hfl]) t d hd ht.col r1 r2 cl (at33 rfl ht r1) (at36 rfl) (fun _ h r1 r2 cl => fam_at (F := F71 t hT hfl) rfl ((r1, r2, cl), ⟨d, okAsk_facts h⟩) rfl rfl)
noncomputable def F31 : Fm where
  k := 31
  α := (Bool × Bool × Bool) × { t : Trade // Trade47 t ∧ ∀ p ∈ t.cu, p.1 = false } × Sm
  f := fun x => [(x.1.1, tradeF x.2.1.1), (x.1.2.1, .sl x.1.2.2 1 (ints x.2.2.1))]
  g := fun x => [.fv (.bool (valS x.2.1.1 x.2.2.1)), .fv (.int .i64 (codeS x.2.1.1 x.2.2.1))]
  inj := fun ⟨⟨a, b, c⟩, ⟨t, h1⟩, ⟨d, h2⟩⟩ ⟨⟨a', b', c'⟩, ⟨t', h1'⟩, ⟨d', h2'⟩⟩ h => by simp [tradeF_inj, ints_inj] at h; simp [h]
  ok := fun ⟨⟨a, b, c⟩, ⟨t, h1⟩, ⟨d, h2⟩⟩ => val31 t h1.1 h1.2 d h2 a b c
  en := enters_of Try.func31 (by kernel_rfl)
theorem val35 (t : Trade) (ht : Trade47 t) (r1 : Bool) : Valid Try.prog 35 [(r1, tradeF t)] [.us 1 (ints (dealsW t)), .fv (.int .i64 (codeT t))] := by
  cases hok : okTrade t with
  | false =>
    rw [dealsW, codeT, hok]
    refine v35r _ (fam_ctx [F33]) t r1 ?_
    have := at33 (L := [F33]) rfl ht r1
    rw [codeT, hok] at this
    exact this
  | true =>
    have hT := okTrade_iff.mp hok
    rw [dealsW, codeT, hok]
    refine v35 _ (fam_ctx [F33, F73 t hT]) t hT r1 ?_ (at73 t hT rfl)
    have := at33 (L := [F33, F73 t hT]) rfl ht r1
    rw [codeT, hok] at this
    exact this
noncomputable def F35 : Fm where
  k := 35
  α := Bool × { t : Trade // Trade47 t }
  f := fun x => [(x.1, tradeF x.2.1)]
  g := fun x => [.us 1 (ints (dealsW x.2.1)), .fv (.int .i64 (codeT x.2.1))]
  inj := fun ⟨a, t, h1⟩ ⟨a', t', h1'⟩ h => by simp [tradeF_inj] at h; simp [h]
  ok := fun ⟨a, t, h1⟩ => val35 t h1 a
  en := enters_of Try.func35 (by kernel_rfl)
noncomputable def F44 : Fm where
  k := 44
  α := { t : Trade // TradeOk t }
  f := fun x => [(false, tradeF x.1)]
  g := fun x => [.us 1 (ints (madeOf x.1))]
  inj := fun ⟨t, h1⟩ ⟨t', h1'⟩ h => by simp [tradeF_inj] at h; simp [h]
  ok := fun ⟨t, h1⟩ => v44 _ (fam_ctx [F45, F46]) t h1 (at45 rfl h1.row62) (at46 rfl)
  en := enters_of Try.func44 (by kernel_rfl)
end Go.Proofs.Ytoafhoihigfllaa.E
