/-
  The chapter of the treaty: sets as bits; who does better, by the program and by the document: walks. Conditions: none.
-/
import Derived.Test.YtoafhoihigfllaaSy
namespace Go.Proofs.Ytoafhoihigfllaa.E
open Go Go.RowKit
set_option linter.unusedVariables false
set_option linter.unusedSimpArgs false
theorem and_one (a : Nat) (ha : a < 2^62) : IntKind.i64.wrap ((a % 2 ^ IntKind.i64.bits &&& 1 % 2 ^ IntKind.i64.bits : Nat) : Int) = ((a % 2 : Nat) : Int) := by
  have hb : (2 : Nat) ^ IntKind.i64.bits = 18446744073709551616 := by decide
  rw [hb, Nat.mod_eq_of_lt (show a < 18446744073709551616 by omega), Nat.mod_eq_of_lt (show 1 < 18446744073709551616 by omega), Nat.and_one_is_mod]
  exact wrap_nat (by omega)
@[simp] theorem nat_neg (g : Nat) : ((g : Int) < 0) = False := by simp
theorem bits64 : IntKind.i64.bits = 64 := rfl
theorem min_bits {g : Nat} (h : g ≤ 64) : min g IntKind.i64.bits = g := by rw [bits64]; omega
theorem shr_nat (s g : Nat) : (s : Int).fdiv (2 ^ g) = ((s / 2 ^ g : Nat) : Int) := by
  have h : ((2 : Int) ^ g) = ((2 ^ g : Nat) : Int) := by simp
  rw [h, Int.fdiv_eq_ediv_of_nonneg _ (Int.natCast_nonneg _)]
  rfl
/-- is a number in a set -/
def inS (s g : Nat) : Bool := decide (s / 2 ^ g % 2 = 1)
theorem inS_testBit (s g : Nat) : inS s g = s.testBit g := by rw [inS, Nat.testBit_eq_decide_div_mod_eq]
theorem v42 (ctx : Ctx) (hC : CtxOk (pg ctx)) (s g : Nat) (hs : s < 2^62) (hg : g < 8) (r1 r2 : Bool) :
    Valid Try.prog 42 [(r1, .int .i64 s), (r2, .int .i64 g)] [.fv (.bool (inS s g))] := by
  refine valid_of_ev (G := pg ctx) (tok ctx) hC mixed Try.func42 T42 L42 (by simp [Try.ntmps42]) ⟨_, rfl, ?_⟩
  simp only [Try.ntmps42, Try.results42, initSt, initEnv]
  have hmin : min g IntKind.i64.bits = g := min_bits (by omega)
  have h1 := shr_nat s g
  have hlt : s / 2 ^ g < 2^62 := Nat.lt_of_le_of_lt (Nat.div_le_self _ _) hs
  have h2 := and_one (s / 2 ^ g) hlt
  have h3 : inS s g = decide (s / 2 ^ g % 2 = 1) := rfl
  generalize s / 2 ^ g % 2 = m at *
  generalize s / 2 ^ g = a at *
  refine ev_seq (ev_reg (by simp; rfl) ?_)  -- region 0
  refine ev_seq (ev_reg (by simp [fshift, hmin, h1, h2]; rfl) ?_)  -- region 1
  refine ev_ret ?_
  rw [h3]
  have h4 : ((m : Int) == 1) = decide (m = 1) := by rw [Bool.eq_iff_iff]; simp; omega
  simp [h4]
/-- the place of a ground in a nation's list -/
def plN (w : List (Bool × List Int)) (k g : Nat) : Nat := (rowAt w k).idxOf (g : Int)
/-- what a nation has by an exchange -/
def hasN (x : List Int) (k : Nat) : Nat := (x.getD k 0).toNat
/-- nations of a list, one after the other, get grounds of the set that are not gone: none a later one than by the exchange, and some an earlier one (or had already) -/
def betterA (w : List (Bool × List Int)) (x : List Int) (s : Nat) : List Nat → List Bool → Bool → Bool
  | [], _, b => b
  | k :: ks, D, b => (List.range w.length).any fun g => inS s g && !D.getD g false && decide (plN w k g ≤ plN w k (hasN x k)) && betterA w x s ks (D.set g true) (b || decide (plN w k g < plN w k (hasN x k)))
theorem betterA_true {w : List (Bool × List Int)} {x : List Int} {s k : Nat} {ks : List Nat} {D : List Bool} {b : Bool} {g : Nat} (hg : g < w.length) (h1 : inS s g = true) (h2 : D.getD g false = false) (h3 : plN w k g ≤ plN w k (hasN x k)) (h4 : betterA w x s ks (D.set g true) (b || decide (plN w k g < plN w k (hasN x k))) = true) : betterA w x s (k :: ks) D b = true := by
  rw [betterA, List.any_eq_true]
  exact ⟨g, by simpa using hg, by simp only [h1, h2, h3, h4, Bool.not_false, Bool.and_self, decide_true]⟩
theorem betterA_false {w : List (Bool × List Int)} {x : List Int} {s k : Nat} {ks : List Nat} {D : List Bool} {b : Bool} (h : ∀ g, g < w.length → inS s g = true → D.getD g false = false → plN w k g ≤ plN w k (hasN x k) → betterA w x s ks (D.set g true) (b || decide (plN w k g < plN w k (hasN x k))) = false) : betterA w x s (k :: ks) D b = false := by
  rw [betterA, List.any_eq_false]
  intro g hg
  simp only [Bool.and_eq_true, Bool.not_eq_true', decide_eq_true_eq, not_and, Bool.not_eq_true]
  rintro ⟨⟨h1, h2⟩, h3⟩
  exact h g (by simpa using hg) h1 h2 h3
/-- the numbers of a set, from one on -/
def memFrom (s n k : Nat) : List Nat := (List.range' k (n - k)).filter (inS s)
theorem memFrom_end {s n k : Nat} (h : n ≤ k) : memFrom s n k = [] := by simp [memFrom, Nat.sub_eq_zero_of_le h]
theorem memFrom_in {s n k : Nat} (h : k < n) (hs : inS s k = true) : memFrom s n k = k :: memFrom s n (k + 1) := by
  rw [memFrom, show n - k = (n - (k + 1)) + 1 by omega, List.range'_succ, List.filter_cons_of_pos hs]; rfl
theorem memFrom_out {s n k : Nat} (h : k < n) (hs : inS s k = false) : memFrom s n k = memFrom s n (k + 1) := by
  rw [memFrom, show n - k = (n - (k + 1)) + 1 by omega, List.range'_succ, List.filter_cons_of_neg (by simp [hs])]; rfl
theorem mem_memFrom {s n k g : Nat} : g ∈ memFrom s n k ↔ k ≤ g ∧ g < n ∧ inS s g = true := by
  simp only [memFrom, List.mem_filter, List.mem_range'_1]
  constructor
  · rintro ⟨⟨h1, h2⟩, h3⟩; exact ⟨h1, by omega, h3⟩
  · rintro ⟨h1, h2, h3⟩; exact ⟨⟨h1, by omega⟩, h3⟩
theorem idxOf_row {w : List (Bool × List Int)} {k j : Nat} (hw : Wish w) (hk : k < w.length) (hj : j < (rowAt w k).length) {g : Nat} (hg : (rowAt w k)[j] = (g : Int)) : plN w k g = j := by
  rw [plN, ← hg]
  have h := (hw.ord k hk).nd
  rw [List.idxOf, List.findIdx_eq hj]
  refine ⟨by simp, fun i hi => ?_⟩
  rw [List.nodup_iff_pairwise_ne, List.pairwise_iff_getElem] at h
  simpa using h i j (by omega) hj hi
theorem idx_idxOf {l : List Int} {x : Int} (h : x ∈ l) : idx (· == x) l = ((l.idxOf x : Nat) : Int) := by
  have hlt := List.idxOf_lt_length_of_mem h
  have : l.findIdx? (· == x) = some (l.idxOf x) := by
    rw [List.findIdx?_eq_some_iff_getElem]
    refine ⟨hlt, by simp [List.getElem_idxOf hlt], fun j hj => ?_⟩
    have := List.not_of_lt_findIdx (p := (· == x)) (xs := l) (i := j) hj
    simpa using this
  simp [idx, this]
theorem row_mem {w : List (Bool × List Int)} (hw : Wish w) {k g : Nat} (hk : k < w.length) (hg : g < w.length) : (g : Int) ∈ rowAt w k := Wish.mem (hw.ord k hk) hg
theorem plN_lt {w : List (Bool × List Int)} (hw : Wish w) {k g : Nat} (hk : k < w.length) (hg : g < w.length) : plN w k g < w.length := by
  have := List.idxOf_lt_length_of_mem (row_mem hw hk hg)
  rw [(hw.ord k hk).len] at this
  exact this
theorem plN_get {w : List (Bool × List Int)} (hw : Wish w) {k g : Nat} (hk : k < w.length) (hg : g < w.length) : (rowAt w k)[plN w k g]'(by rw [(hw.ord k hk).len]; exact plN_lt hw hk hg) = (g : Int) := List.getElem_idxOf _
theorem plN_inj {w : List (Bool × List Int)} (hw : Wish w) {k g h : Nat} (hk : k < w.length) (hg : g < w.length) (hh : h < w.length) (e : plN w k g = plN w k h) : g = h := by
  have h1 := plN_get hw hk hg
  have h2 := plN_get hw hk hh
  have : (g : Int) = h := by rw [← h1, ← h2]; congr 1
  omega
theorem bV_1 (D : List Bool) (x : Nat) (hx : x < D.length) : List.take 1 (List.drop x (bV D)) = [.fv false (.bool D[x])] := by
  rw [bV, List.drop_eq_getElem_cons (by simpa using hx)]
  simp
theorem bV_set' (D : List Bool) (x : Nat) (hx : x < D.length) : List.take x (bV D) ++ .fv false (.bool true) :: List.drop (x + 1) (bV D) = bV (D.set x true) := by
  rw [bV, bV, List.map_set, List.set_eq_take_append_cons_drop]
  simp [hx]
end Go.Proofs.Ytoafhoihigfllaa.E
namespace Go.Proofs.Ytoafhoihigfllaa.E
open Go Go.RowKit
set_option linter.unusedVariables false
set_option linter.unusedSimpArgs false
def P63a (c : Bool) (w : List (Bool × List Int)) : FV := .pt [.sl c 1 (rowsF w)] 0
def P63b (s : Nat) : FV := .pt [.int .i64 s] 0
def P63c (cx : Bool) (x : List Int) : FV := .pt [.sl cx 1 (ints x)] 0
def R63 (c : Bool) (w : List (Bool × List Int)) (s : Nat) (cx : Bool) (x : List Int) : FV := .rb 63 [P63a c w, P63b s] [P63c cx x]
def H63 (ctx : Ctx) (c : Bool) (w : List (Bool × List Int)) (s : Nat) (cx : Bool) (x : List Int) (k : Nat) : Prop := ∀ (D : List Bool) (b : Bool), D.length = 8 → ∀ (q0 q1 q2 q3 q4 q5 q6 : Bool),
  ctx 63 [(q0, .int .i64 k), (q1, .agg (bools D)), (q2, .bool b), (q3, P63a c w), (q4, P63b s), (q5, R63 c w s cx x), (q6, P63c cx x)] = some [.fv (.bool (betterA w x s (memFrom s w.length k) D b))]
theorem v63 (ctx : Ctx) (hC : CtxOk (pg ctx)) (c : Bool) (w : List (Bool × List Int)) (hw : Wish w) (s : Nat) (hs : s < 2^62) (cx : Bool) (x : List Int) (hx : IsOrd x w.length) (k : Nat) (hkn : k ≤ w.length) (h63 : k < w.length → H63 ctx c w s cx x (k + 1)) (D : List Bool) (b : Bool) (hD : D.length = 8) (q0 q1 q2 q3 q4 q5 q6 : Bool) :
    Valid Try.prog 63 [(q0, .int .i64 k), (q1, .agg (bools D)), (q2, .bool b), (q3, P63a c w), (q4, P63b s), (q5, R63 c w s cx x), (q6, P63c cx x)] [.fv (.bool (betterA w x s (memFrom s w.length k) D b))] := by
  refine valid_of_ev (G := pg ctx) (tok ctx) hC mixed Try.func63 T63 L63 (by simp [Try.ntmps63]) ⟨_, rfl, ?_⟩
  simp only [Try.ntmps63, Try.results63, initSt, initEnv, P63a, P63b, P63c, R63]
  have h8 := hw.few
  have hmin : min k IntKind.i64.bits = k := min_bits (by omega)
  refine ev_seq (ev_reg (by simp [boxA, vcells]; rfl) ?_)  -- region 0
  obtain ⟨E, hE⟩ : ∃ E, E = ((k : Int) == (w.length : Int)) := ⟨_, rfl⟩
  refine ev_seq (ev_seq (ev_reg (by simp [← hE]; rfl) ?_))  -- region 1
  refine ev_cond rfl (fun hb => ?_) (fun hb => ?_)  -- 18
  · have hk : k = w.length := by rw [hE] at hb; simp at hb; omega
    refine ev_seq (ev_reg (by simp; rfl) ?_)  -- region 2
    refine ev_ret ?_
    rw [memFrom_end (by omega)]
    simp [betterA]
  · have hk : k < w.length := by
      rcases Nat.lt_or_ge k w.length with h | h
      · exact h
      · have : k = w.length := by omega
        rw [this] at hE; rw [hE] at hb; simp at hb
    have h63 := h63 hk
    simp only [H63, P63a, P63b, P63c, R63] at h63
    have hw9 : IntKind.i64.wrap ((k : Int) + 1) = (k + 1 : Nat) := wrap_nat (n := k + 1) (by omega)
    have t8 := bV_take D hD
    obtain ⟨a, ha⟩ : ∃ a, a = s / 2 ^ k := ⟨_, rfl⟩
    have h1 := shr_nat s k
    have h2 := and_one (s / 2 ^ k) (Nat.lt_of_le_of_lt (Nat.div_le_self _ _) hs)
    obtain ⟨m, hm⟩ : ∃ m, m = s / 2 ^ k % 2 := ⟨_, rfl⟩
    rw [← ha] at h1 h2
    rw [ha, ← hm, ← ha] at h2
    have hm2 : m < 2 := by rw [hm]; exact Nat.mod_lt _ (by omega)
    refine ev_skip ?_
    cases hin : inS s k with
    | false =>
      have hm0 : m = 0 := by rw [inS, ← hm] at hin; simp at hin; omega
      subst hm0
      rw [memFrom_out hk hin]
      refine ev_seq (ev_seq (ev_reg (by simp [fshift, hmin, h1, h2]; rfl) ?_))  -- region 3
      refine ev_cond rfl (fun hb => ?_) (fun hb => by simp at hb)  -- 24
      simp only [Int.natCast_add, Int.natCast_one] at h63 hw9
      refine ev_seq (ev_reg (by simp [hw9, t8, hD, h63]; rfl) ?_)  -- region 4
      refine ev_ret ?_
      simp
    | true =>
      have hm1 : m = 1 := by rw [inS, ← hm] at hin; simpa using hin
      subst hm1
      rw [memFrom_in hk hin]
      have hrow := rowAt_get hk
      have hord := hw.ord k hk
      rw [hrow] at hord
      have hlen := hord.len
      have hkx : k < x.length := by rw [hx.len]; exact hk
      obtain ⟨xk, hxk⟩ : ∃ xk, hasN x k = xk := ⟨_, rfl⟩
      have hxv : x[k] = (xk : Int) := by
        have := hx.rng x[k] (List.getElem_mem _)
        rw [← hxk, hasN, List.getD_eq_getElem?_getD, List.getElem?_eq_getElem hkx, Option.getD_some]
        omega
      have hxn : xk < w.length := by
        have := hx.rng x[k] (List.getElem_mem _)
        omega
      simp only [Int.natCast_add, Int.natCast_one] at h63 hw9
      refine ev_seq (ev_seq (ev_reg (by simp [fshift, hmin, h1, h2]; rfl) ?_))  -- region 3
      refine ev_cond rfl (fun hb => by simp at hb) (fun hb => ?_)  -- 24
      refine ev_skip ?_
      refine ev_seq (ev_seq (ev_reg (by simp [hk, rowF, hlen]; rfl) ?_))  -- region 5
      refine ev_block ?_  -- 0
      refine ev_loop (fun j : Nat => ({ env := [(0, V.fv q0 (.int .i64 k)), (2, V.fv q2 (.bool b)), (4, V.fv q4 (.pt [.int .i64 s] 0)), (5, V.fv q5 (.rb 63 [.pt [.sl c 1 (rowsF w)] 0, .pt [.int .i64 s] 0] [.pt [.sl cx 1 (ints x)] 0])), (6, V.fv q6 (.pt [.sl cx 1 (ints x)] 0)), (8, V.ptr 8 0), (34, V.fv q3 (.sl w[k].1 1 (ints w[k].2))), (35, V.fv false (.int .i64 w.length)), (36, V.fv false (.int .i64 j))], blk := [(8, Blk.box (bV D))] } : St)) (fun j => w.length - j)
        (fun j => j ≤ w.length ∧ ∀ j', (h : j' < w[k].2.length) → j' < j → w[k].2[j'] ≠ (xk : Int) ∧ (inS s w[k].2[j'].toNat = true → D.getD w[k].2[j'].toNat false = false → betterA w x s (memFrom s w.length (k + 1)) (D.set w[k].2[j'].toNat true) (b || decide (plN w k w[k].2[j'].toNat < plN w k xk)) = false)) 0 rfl (by simp) (by simp [R]; omega) (fun j hj => ?_)
      obtain ⟨hj, hn⟩ := hj
      refine ev_seq (ev_reg (by simp; rfl) ?_)  -- region 6
      refine ev_seq (ev_cond rfl (fun hb => ?_) (fun hb => ?_))  -- 37
      · simp at hb
        have hjr : j < w[k].2.length := by omega
        have hw1 : IntKind.i64.wrap ((j : Int) + 1) = (j + 1 : Nat) := wrap_nat (n := j + 1) (by omega)
        obtain ⟨g, hg⟩ : ∃ g : Nat, w[k].2[j] = (g : Int) := ⟨w[k].2[j].toNat, by have := hord.rng w[k].2[j] (List.getElem_mem _); omega⟩
        have hgn : g < w.length := by have := hord.rng w[k].2[j] (List.getElem_mem _); omega
        have hplg : plN w k g = j := idxOf_row hw hk (by rw [hrow]; exact hjr) (by simpa only [hrow] using hg)
        have hg8 : (g : Int) < 8 := by omega
        have hg9 : g + 1 ≤ 8 := by omega
        have hgD : g < D.length := by omega
        have hming : min g IntKind.i64.bits = g := min_bits (by omega)
        obtain ⟨a, ha⟩ : ∃ a, a = s / 2 ^ g := ⟨_, rfl⟩
        have h1 := shr_nat s g
        have h2 := and_one (s / 2 ^ g) (Nat.lt_of_le_of_lt (Nat.div_le_self _ _) hs)
        obtain ⟨m, hm⟩ : ∃ m, m = s / 2 ^ g % 2 := ⟨_, rfl⟩
        rw [← ha] at h1 h2
        rw [ha, ← hm, ← ha] at h2
        have hm2 : m < 2 := by rw [hm]; exact Nat.mod_lt _ (by omega)
        have hle : plN w k g ≤ plN w k xk := by
          rcases Nat.lt_or_ge (plN w k xk) j with hlt | hge
          · have := (hn (plN w k xk) (by rw [hlen]; exact plN_lt hw hk hxn) hlt).1
            exact absurd (by have := plN_get hw hk hxn; simpa only [hrow] using this) this
          · omega
        obtain ⟨same, hsame⟩ : ∃ same, same = ((g : Int) == (xk : Int)) := ⟨_, rfl⟩
        have hlt : decide (plN w k g < plN w k xk) = !same := by
          rw [hsame, Bool.eq_iff_iff]
          simp only [decide_eq_true_eq, Bool.not_eq_true', beq_eq_false_iff_ne, ne_eq]
          constructor
          · intro h e
            have : g = xk := by omega
            rw [this] at h; exact Nat.lt_irrefl _ h
          · intro h
            rcases Nat.lt_or_ge (plN w k g) (plN w k xk) with h3 | h3
            · exact h3
            · exact absurd (by rw [plN_inj hw hk hgn hxn (by omega)]) h
        have d1 := bV_1 D g hgD
        have hdg : D[g] = D.getD g false := (getD_get hgD).symm
        rw [hdg] at d1
        refine ev_skip ?_
        refine ev_seq (ev_block ?_)  -- 1
        refine ev_seq (ev_reg (by simp [hjr, hg]; rfl) ?_)  -- region 7
        refine ev_seq (ev_reg (by simp [hkx, hxv, ← hsame]; rfl) ?_)  -- region 8
        cases hing : inS s g with
        | false =>
          have hF : inS s g = true → D.getD g false = false → betterA w x s (memFrom s w.length (k + 1)) (D.set g true) (b || decide (plN w k g < plN w k xk)) = false := fun h => by rw [hing] at h; simp at h
          have hm0 : m = 0 := by rw [inS, ← hm] at hing; simp at hing; omega
          subst hm0
          refine ev_seq (ev_seq (ev_reg (by simp [fshift, hming, h1, h2, unsetS]; rfl) ?_))  -- region 9
          refine ev_cond rfl (fun hb6 => by simp at hb6) (fun hb6 => ?_)  -- 56
          refine ev_skip ?_
          refine ev_seq (ev_reg (by simp; rfl) ?_)  -- region 14
          cases same with
          | true =>
            refine ev_cond rfl (fun hb7 => ?_) (fun hb7 => by simp at hb7)  -- 70
            refine ev_exit ?_  -- 0
            refine ev_seq (ev_reg (by simp; rfl) ?_)  -- region 16
            refine ev_ret ?_
            have hgx : g = xk := by have e := hsame.symm; simp at e; omega
            have hbad := betterA_false (w := w) (x := x) (s := s) (k := k) (ks := memFrom s w.length (k + 1)) (D := D) (b := b) (fun g' h1 h2 h3 h4 => by
              rw [hxk] at h4 ⊢
              have hle : plN w k g' ≤ j := by rw [← hgx, hplg] at h4; exact h4
              rcases Nat.lt_or_ge (plN w k g') j with hlt | hge
              · have := (hn (plN w k g') (by rw [hlen]; exact plN_lt hw hk h1) hlt).2
                rw [show w[k].2[plN w k g']'(by rw [hlen]; exact plN_lt hw hk h1) = (g' : Int) from by have := plN_get hw hk h1; simpa only [hrow] using this, Int.toNat_natCast] at this
                exact this h2 h3
              · have : g' = g := plN_inj hw hk h1 hgn (by rw [hplg]; omega)
                subst this
                exact hF h2 h3)
            simp [hbad]
          | false =>
            refine ev_cond rfl (fun hb7 => by simp at hb7) (fun hb7 => ?_)  -- 70
            refine ev_skip ?_
            refine ev_reg (by simp [hw1]; rfl) ?_  -- region 15
            refine ⟨j + 1, by simp, ⟨by omega, fun j' h hj' => ?_⟩, by omega⟩
            by_cases e : j' = j
            · subst e
              rw [hg, Int.toNat_natCast]
              refine ⟨fun e => ?_, hF⟩
              rw [e] at hsame
              simp at hsame
            · exact hn j' h (by omega)
        | true =>
          have hm1 : m = 1 := by rw [inS, ← hm] at hing; simpa using hing
          subst hm1
          cases hdv : D.getD g false with
          | true =>
            have hF : inS s g = true → D.getD g false = false → betterA w x s (memFrom s w.length (k + 1)) (D.set g true) (b || decide (plN w k g < plN w k xk)) = false := fun _ h => by rw [hdv] at h; simp at h
            rw [hdv] at d1
            refine ev_seq (ev_seq (ev_reg (by simp [fshift, hming, h1, h2, hg8, hg9, hD, d1]; rfl) ?_))  -- region 9
            refine ev_cond rfl (fun hb6 => by simp at hb6) (fun hb6 => ?_)  -- 56
            refine ev_skip ?_
            refine ev_seq (ev_reg (by simp; rfl) ?_)  -- region 14
            cases same with
            | true =>
              refine ev_cond rfl (fun hb7 => ?_) (fun hb7 => by simp at hb7)  -- 70
              refine ev_exit ?_  -- 0
              refine ev_seq (ev_reg (by simp; rfl) ?_)  -- region 16
              refine ev_ret ?_
              have hgx : g = xk := by have e := hsame.symm; simp at e; omega
              have hbad := betterA_false (w := w) (x := x) (s := s) (k := k) (ks := memFrom s w.length (k + 1)) (D := D) (b := b) (fun g' h1 h2 h3 h4 => by
                rw [hxk] at h4 ⊢
                have hle : plN w k g' ≤ j := by rw [← hgx, hplg] at h4; exact h4
                rcases Nat.lt_or_ge (plN w k g') j with hlt | hge
                · have := (hn (plN w k g') (by rw [hlen]; exact plN_lt hw hk h1) hlt).2
                  rw [show w[k].2[plN w k g']'(by rw [hlen]; exact plN_lt hw hk h1) = (g' : Int) from by have := plN_get hw hk h1; simpa only [hrow] using this, Int.toNat_natCast] at this
                  exact this h2 h3
                · have : g' = g := plN_inj hw hk h1 hgn (by rw [hplg]; omega)
                  subst this
                  exact hF h2 h3)
              simp [hbad]
            | false =>
              refine ev_cond rfl (fun hb7 => by simp at hb7) (fun hb7 => ?_)  -- 70
              refine ev_skip ?_
              refine ev_reg (by simp [hw1]; rfl) ?_  -- region 15
              refine ⟨j + 1, by simp, ⟨by omega, fun j' h hj' => ?_⟩, by omega⟩
              by_cases e : j' = j
              · subst e
                rw [hg, Int.toNat_natCast]
                refine ⟨fun e => ?_, hF⟩
                rw [e] at hsame
                simp at hsame
              · exact hn j' h (by omega)
          | false =>
            rw [hdv] at d1
            have s8 := bV_splice D hD
            have sg := bV_set' D g hgD
            have hD2 : (D.set g true).length = 8 := by simp [hD]
            have t82 := bV_take (D.set g true) hD2
            obtain ⟨Rv, hRv⟩ : ∃ Rv, Rv = betterA w x s (memFrom s w.length (k + 1)) (D.set g true) (b || !same) := ⟨_, rfl⟩
            have e63 := h63 (D.set g true) (b || !same) hD2
            rw [← hRv] at e63
            refine ev_seq (ev_seq (ev_reg (by simp [fshift, hming, h1, h2, hg8, hg9, hD, d1]; rfl) ?_))  -- region 9
            refine ev_cond rfl (fun hb6 => ?_) (fun hb6 => by simp at hb6)  -- 56
            refine ev_seq (ev_reg (by simp [t8, hD, s8]; rfl) ?_)  -- region 10
            refine ev_seq (ev_reg (by simp [hg8, hg9, hD, sg]; rfl) ?_)  -- region 11
            refine ev_seq (ev_reg (σ' := { env := [(0, V.fv q0 (.int .i64 k)), (2, V.fv q2 (.bool b)), (4, V.fv q4 (.pt [.int .i64 s] 0)), (5, V.fv q5 (.rb 63 [.pt [.sl c 1 (rowsF w)] 0, .pt [.int .i64 s] 0] [.pt [.sl cx 1 (ints x)] 0])), (6, V.fv q6 (.pt [.sl cx 1 (ints x)] 0)), (8, V.ptr 8 0), (13, V.fv false (.bool same)), (34, V.fv q3 (.sl w[k].1 1 (ints w[k].2))), (35, V.fv false (.int .i64 w.length)), (36, V.fv false (.int .i64 j)), (69, V.fv false (.bool Rv))], blk := [(8, Blk.box (bV D))] }) (by clear hRv hlt hsame hn; cases b <;> cases same <;> simp only [Bool.or_false, Bool.or_true, Bool.not_false, Bool.not_true, Bool.true_or, Bool.false_or] at e63 <;> simp [hw9, t82, hD2, e63, unsetS]) ?_)  -- region 12
            cases Rv with
            | true =>
              refine ev_cond rfl (fun hb7 => ?_) (fun hb7 => by simp at hb7)  -- 69
              refine ev_seq (ev_reg (by simp; rfl) ?_)  -- region 13
              refine ev_ret ?_
              have := betterA_true (w := w) (x := x) (s := s) (k := k) (ks := memFrom s w.length (k + 1)) (D := D) (b := b) hgn hing hdv (by rw [hxk]; exact hle) (by rw [hxk, hlt]; exact hRv.symm)
              simp [this]
            | false =>
              have hF : inS s g = true → D.getD g false = false → betterA w x s (memFrom s w.length (k + 1)) (D.set g true) (b || decide (plN w k g < plN w k xk)) = false := fun _ _ => by rw [hlt]; exact hRv.symm
              refine ev_cond rfl (fun hb7 => by simp at hb7) (fun hb7 => ?_)  -- 69
              refine ev_skip ?_
              refine ev_seq (ev_reg (by simp; rfl) ?_)  -- region 14
              cases same with
              | true =>
                refine ev_cond rfl (fun hb7 => ?_) (fun hb7 => by simp at hb7)  -- 70
                refine ev_exit ?_  -- 0
                refine ev_seq (ev_reg (by simp; rfl) ?_)  -- region 16
                refine ev_ret ?_
                have hgx : g = xk := by have e := hsame.symm; simp at e; omega
                have hbad := betterA_false (w := w) (x := x) (s := s) (k := k) (ks := memFrom s w.length (k + 1)) (D := D) (b := b) (fun g' h1 h2 h3 h4 => by
                  rw [hxk] at h4 ⊢
                  have hle : plN w k g' ≤ j := by rw [← hgx, hplg] at h4; exact h4
                  rcases Nat.lt_or_ge (plN w k g') j with hlt | hge
                  · have := (hn (plN w k g') (by rw [hlen]; exact plN_lt hw hk h1) hlt).2
                    rw [show w[k].2[plN w k g']'(by rw [hlen]; exact plN_lt hw hk h1) = (g' : Int) from by have := plN_get hw hk h1; simpa only [hrow] using this, Int.toNat_natCast] at this
                    exact this h2 h3
                  · have : g' = g := plN_inj hw hk h1 hgn (by rw [hplg]; omega)
                    subst this
                    exact hF h2 h3)
                simp [hbad]
              | false =>
                refine ev_cond rfl (fun hb7 => by simp at hb7) (fun hb7 => ?_)  -- 70
                refine ev_skip ?_
                refine ev_reg (by simp [hw1]; rfl) ?_  -- region 15
                refine ⟨j + 1, by simp, ⟨by omega, fun j' h hj' => ?_⟩, by omega⟩
                by_cases e : j' = j
                · subst e
                  rw [hg, Int.toNat_natCast]
                  refine ⟨fun e => ?_, hF⟩
                  rw [e] at hsame
                  simp at hsame
                · exact hn j' h (by omega)
      · simp at hb
        have := (hn (plN w k xk) (by rw [hlen]; exact plN_lt hw hk hxn) (by have := plN_lt hw hk hxn; omega)).1
        exact absurd (by have := plN_get hw hk hxn; simpa only [hrow] using this) this
end Go.Proofs.Ytoafhoihigfllaa.E
namespace Go.Proofs.Ytoafhoihigfllaa.E
open Go Go.RowKit
set_option linter.unusedVariables false
set_option linter.unusedSimpArgs false
def H42 (ctx : Ctx) : Prop := ∀ (s g : Nat), s < 2^62 → g < 8 → ∀ (r1 r2 : Bool), ctx 42 [(r1, .int .i64 s), (r2, .int .i64 g)] = some [.fv (.bool (inS s g))]
theorem v65 (ctx : Ctx) (hC : CtxOk (pg ctx)) (h42 : H42 ctx) (s : Nat) (hs : s < 2^62) (n : Nat) (hn : n ≤ 8) (r1 r2 : Bool) :
    Valid Try.prog 65 [(r1, .int .i64 s), (r2, .int .i64 n)] [.us 1 (ints (nn (memFrom s n 0)))] := by
  refine valid_of_ev (G := pg ctx) (tok ctx) hC mixed Try.func65 T65 L65 (by simp [Try.ntmps65]) ⟨_, rfl, ?_⟩
  simp only [Try.ntmps65, Try.results65, initSt, initEnv]
  refine ev_seq (ev_reg (by simp; rfl) ?_)  -- region 0
  refine ev_seq (ev_reg (by simp; rfl) ?_)  -- region 1
  refine ev_seq (ev_seq (ev_reg (by simp; rfl) ?_))  -- region 2
  refine ev_block ?_  -- 0
  refine ev_loop (fun i : Nat => ({ env := [(0, V.fv r1 (.int .i64 s)), (1, V.fv r2 (.int .i64 n)), (5, V.own 5 0 ((List.range i).filter (inS s)).length), (6, V.fv false (.int .i64 i))], blk := [(5, Blk.arr 1 (ints (nn ((List.range i).filter (inS s)))))] } : St)) (fun i => n - i) (fun i => i ≤ n) 0 rfl (by simp) (by simp [R]; omega) (fun i hi => ?_)
  have hml : ((List.range i).filter (inS s)).length ≤ 8 := Nat.le_trans (List.length_filter_le _ _) (by simp; omega)
  refine ev_seq (ev_seq (ev_reg (by simp; rfl) ?_))  -- region 3
  refine ev_cond rfl (fun hb => ?_) (fun hb => ?_)  -- 9
  · simp at hb
    have e42 := h42 s i hs (by omega)
    have hw1 : IntKind.i64.wrap ((i : Int) + 1) = (i + 1 : Nat) := wrap_nat (n := i + 1) (by omega)
    have hb8 : (((List.range i).filter (inS s)).length + 1) * 8 ≤ 140737488355328 := by omega
    have hnx : (List.range (i + 1)).filter (inS s) = (List.range i).filter (inS s) ++ (if inS s i then [i] else []) := by
      rw [List.range_succ, List.filter_append]
      cases h : inS s i <;> simp [h]
    generalize hm : (List.range i).filter (inS s) = m at *
    refine ev_skip ?_
    refine ev_seq (ev_block ?_)  -- 1
    cases hin : inS s i with
    | true =>
      rw [hin] at e42 hnx
      refine ev_seq (ev_reg (by simp [e42]; rfl) ?_)  -- region 5
      refine ev_cond rfl (fun hb => ?_) (fun hb => by simp at hb)  -- 14
      refine ev_reg (by simp [hb8]; rfl) ?_  -- region 6
      refine ev_reg (by simp [hw1]; rfl) ?_  -- region 4
      refine ⟨i + 1, ?_, by omega, by omega⟩
      rw [hnx]
      simp [nn_append]
      simp [nn, ints]
    | false =>
      rw [hin] at e42 hnx
      refine ev_seq (ev_reg (by simp [e42]; rfl) ?_)  -- region 5
      refine ev_cond rfl (fun hb => by simp at hb) (fun hb => ?_)  -- 14
      refine ev_skip ?_
      refine ev_reg (by simp [hw1]; rfl) ?_  -- region 4
      refine ⟨i + 1, ?_, by omega, by omega⟩
      rw [hnx]
      simp
  · simp at hb
    have hin : i = n := by omega
    subst hin
    refine ev_exit ?_  -- 0
    refine ev_seq (ev_reg (by simp; rfl) ?_)  -- region 7
    refine ev_ret ?_
    have : memFrom s i 0 = (List.range i).filter (inS s) := by rw [memFrom, List.range_eq_range']; rfl
    rw [this]
    simp
/-- bits as bools -/
def dOf (t : Nat) : List Bool := (List.range 8).map (inS t)
theorem dOf_getD {t g : Nat} (h : g < 8) : (dOf t).getD g false = inS t g := by simp [dOf, List.getD_eq_getElem?_getD, List.getElem?_eq_getElem, h]
theorem dOf_or {t g : Nat} (h : g < 8) : dOf (t ||| 2 ^ g) = (dOf t).set g true := by
  apply List.ext_getElem
  · simp [dOf]
  · intro j h1 h2
    rw [List.getElem_set]
    simp only [dOf, List.getElem_map, List.getElem_range]
    rw [inS_testBit, inS_testBit, Nat.testBit_or, Nat.testBit_two_pow]
    by_cases e : g = j
    · simp [e]
    · simp [e]
theorem or_nat (t p : Nat) (ht : t < 2^62) (hp : p < 2^62) (h : t ||| p < 2^62) : IntKind.i64.wrap ((t % 2 ^ IntKind.i64.bits ||| p % 2 ^ IntKind.i64.bits : Nat) : Int) = ((t ||| p : Nat) : Int) := by
  have hb : (2 : Nat) ^ IntKind.i64.bits = 18446744073709551616 := by decide
  rw [hb, Nat.mod_eq_of_lt (show t < 18446744073709551616 by omega), Nat.mod_eq_of_lt (show p < 18446744073709551616 by omega)]
  exact wrap_nat (by omega)
def H64 (ctx : Ctx) (c : Bool) (w : List (Bool × List Int)) (s : Nat) (cx : Bool) (x : List Int) (i : Nat) : Prop := ∀ (t : Nat) (b : Bool), t < 256 → ∀ (q0 q1 q2 q3 q4 q5 cl : Bool),
  ctx 64 [(q0, .sl c 1 (rowsF w)), (q1, .sl cx 1 (ints x)), (q2, .sl cl 1 (ints (nn (memFrom s w.length 0)))), (q3, .int .i64 i), (q4, .int .i64 t), (q5, .bool b)] = some [.fv (.bool (betterA w x s ((memFrom s w.length 0).drop i) (dOf t) b))]
theorem v64 (ctx : Ctx) (hC : CtxOk (pg ctx)) (c : Bool) (w : List (Bool × List Int)) (hw : Wish w) (s : Nat) (hs : s < 2^62) (cx : Bool) (x : List Int) (hx : IsOrd x w.length) (h40 : H40 ctx) (h42 : H42 ctx) (i : Nat) (hi : i ≤ (memFrom s w.length 0).length) (h64 : i < (memFrom s w.length 0).length → H64 ctx c w s cx x (i + 1)) (t : Nat) (b : Bool) (ht : t < 256) (q0 q1 q2 q3 q4 q5 cl : Bool) :
    Valid Try.prog 64 [(q0, .sl c 1 (rowsF w)), (q1, .sl cx 1 (ints x)), (q2, .sl cl 1 (ints (nn (memFrom s w.length 0)))), (q3, .int .i64 i), (q4, .int .i64 t), (q5, .bool b)] [.fv (.bool (betterA w x s ((memFrom s w.length 0).drop i) (dOf t) b))] := by
  refine valid_of_ev (G := pg ctx) (tok ctx) hC mixed Try.func64 T64 L64 (by simp [Try.ntmps64]) ⟨_, rfl, ?_⟩
  simp only [Try.ntmps64, Try.results64, initSt, initEnv]
  have h8 := hw.few
  have hmem := fun g => @mem_memFrom s w.length 0 g
  have hml : (memFrom s w.length 0).length ≤ 8 := by
    have := List.length_filter_le (inS s) (List.range' 0 (w.length - 0))
    simp only [List.length_range'] at this
    unfold memFrom; omega
  simp only [H64] at h64
  generalize memFrom s w.length 0 = mem at *
  refine ev_seq (ev_reg (by simp; rfl) ?_)  -- region 0
  obtain ⟨E, hE⟩ : ∃ E, E = ((i : Int) == (mem.length : Int)) := ⟨_, rfl⟩
  refine ev_seq (ev_seq (ev_reg (by simp [← hE]; rfl) ?_))  -- region 1
  refine ev_cond rfl (fun hb => ?_) (fun hb => ?_)  -- 20
  · have hk : i = mem.length := by rw [hE] at hb; simp at hb; omega
    refine ev_seq (ev_reg (by simp; rfl) ?_)  -- region 2
    refine ev_ret ?_
    rw [hk, List.drop_length]
    simp [betterA]
  · have hk : i < mem.length := by
      rcases Nat.lt_or_ge i mem.length with h | h
      · exact h
      · have : i = mem.length := by omega
        rw [this] at hE; rw [hE] at hb; simp at hb
    have h64 := h64 hk
    have hw9 : IntKind.i64.wrap ((i : Int) + 1) = (i + 1 : Nat) := wrap_nat (n := i + 1) (by omega)
    rw [List.drop_eq_getElem_cons hk]
    obtain ⟨k, hki⟩ : ∃ k, mem[i] = k := ⟨_, rfl⟩
    rw [hki]
    have hkn : k < w.length := ((hmem k).mp (hki ▸ List.getElem_mem _)).2.1
    have hrow := rowAt_get hkn
    have hord := hw.ord k hkn
    rw [hrow] at hord
    have hlen := hord.len
    have hkx : k < x.length := by rw [hx.len]; exact hkn
    obtain ⟨xk, hxk⟩ : ∃ xk, hasN x k = xk := ⟨_, rfl⟩
    have hxv : x[k] = (xk : Int) := by
      have := hx.rng x[k] (List.getElem_mem _)
      rw [← hxk, hasN, List.getD_eq_getElem?_getD, List.getElem?_eq_getElem hkx, Option.getD_some]
      omega
    have hxn : xk < w.length := by
      have := hx.rng x[k] (List.getElem_mem _)
      omega
    have e40 : ∀ g : Nat, g < w.length → ∀ (ro r2 c : Bool), ctx 40 [(ro, .sl c 1 (ints w[k].2)), (r2, .int .i64 (g : Int))] = some [.fv (.int .i64 ((plN w k g : Nat) : Int))] := fun g hg ro r2 c => by
      rw [h40 w[k].2 g (by omega) ro r2 c, ← hrow, idx_idxOf (row_mem hw hkn hg)]; rfl
    have e40x := e40 xk hxn
    refine ev_skip ?_
    refine ev_seq (ev_reg (by simp [hk, hki]; rfl) ?_)  -- region 3
    refine ev_seq (ev_drw rfl (by kernel_rfl) (by kernel_rfl) (by simp [hkn, rowF, hkx, hxv, e40x]; rfl) ?_)  -- region 4
    refine ev_seq (ev_seq (ev_reg (by simp; rfl) ?_))  -- region 5
    refine ev_block ?_  -- 0
    refine ev_loop (fun j : Nat => ({ env := [(0, V.fv q0 (.sl c 1 (rowsF w))), (1, V.fv q1 (.sl cx 1 (ints x))), (2, V.fv q2 (.sl cl 1 (ints (nn mem)))), (3, V.fv q3 (.int .i64 i)), (4, V.fv q4 (.int .i64 t)), (5, V.fv q5 (.bool b)), (13, V.fv false (.int .i64 k)), (14, V.fv false (.int .i64 (plN w k xk))), (15, V.fv false (.int .i64 j))], blk := [] } : St)) (fun j => mem.length - j)
      (fun j => j ≤ mem.length ∧ ∀ j', (h : j' < mem.length) → j' < j → inS t mem[j'] = false → plN w k mem[j'] ≤ plN w k xk → betterA w x s (mem.drop (i + 1)) ((dOf t).set mem[j'] true) (b || decide (plN w k mem[j'] < plN w k xk)) = false) 0 rfl (by simp) (by simp [R]; omega) (fun j hj => ?_)
    obtain ⟨hj, hn⟩ := hj
    refine ev_seq (ev_seq (ev_reg (by simp; rfl) ?_))  -- region 6
    refine ev_cond rfl (fun hb => ?_) (fun hb => ?_)  -- 38
    · simp at hb
      have hw1 : IntKind.i64.wrap ((j : Int) + 1) = (j + 1 : Nat) := wrap_nat (n := j + 1) (by omega)
      obtain ⟨g, hg⟩ : ∃ g, mem[j] = g := ⟨_, rfl⟩
      have hgm := (hmem g).mp (hg ▸ List.getElem_mem _)
      have hgn := hgm.2.1
      have e40g := e40 g hgn
      have e42 := h42 t g (by omega) (by omega)
      obtain ⟨tk, htk⟩ : ∃ tk, inS t g = tk := ⟨_, rfl⟩
      rw [htk] at e42
      obtain ⟨le, hle⟩ : ∃ le, le = decide (plN w k g ≤ plN w k xk) := ⟨_, rfl⟩
      have hle2 : decide (((plN w k g : Nat) : Int) ≤ ((plN w k xk : Nat) : Int)) = le := by rw [hle, Bool.eq_iff_iff]; simp
      have hle3 := hle.symm
      obtain ⟨lt, hlt⟩ : ∃ lt, lt = decide (plN w k g < plN w k xk) := ⟨_, rfl⟩
      have hlt2 : decide (((plN w k g : Nat) : Int) < ((plN w k xk : Nat) : Int)) = lt := by rw [hlt, Bool.eq_iff_iff]; simp
      have hlt3 := hlt.symm
      obtain ⟨Rv, hRv⟩ : ∃ Rv, Rv = betterA w x s (mem.drop (i + 1)) ((dOf t).set g true) (b || lt) := ⟨_, rfl⟩
      have hp256 : 2 ^ g < 256 := Nat.lt_of_le_of_lt (Nat.pow_le_pow_right (by omega) (show g ≤ 7 by omega)) (by decide)
      have hor : t ||| 2 ^ g < 256 := Nat.or_lt_two_pow (n := 8) ht hp256
      have e64 := h64 (t ||| 2 ^ g) (b || lt) hor
      rw [dOf_or (by omega), ← hRv] at e64
      have hming : min g IntKind.i64.bits = g := min_bits (by omega)
      have hpow : (2 : Int) ^ g = ((2 ^ g : Nat) : Int) := by simp
      have hpw : IntKind.i64.wrap ((2 ^ g : Nat) : Int) = ((2 ^ g : Nat) : Int) := wrap_nat (by omega)
      have horv := or_nat t (2 ^ g) (by omega) (by omega) (by omega)
      generalize t ||| 2 ^ g = t2 at *
      generalize 2 ^ g = p at *
      simp only [Int.natCast_add, Int.natCast_one] at e64 hw9
      refine ev_skip ?_
      refine ev_seq (ev_block ?_)  -- 1
      refine ev_seq (ev_drw rfl (by kernel_rfl) (by kernel_rfl) (by simp [hkn, rowF, hb, hg, e40g]; rfl) ?_)  -- region 8
      refine ev_seq (ev_reg (σ' := { env := [(0, V.fv q0 (.sl c 1 (rowsF w))), (1, V.fv q1 (.sl cx 1 (ints x))), (2, V.fv q2 (.sl cl 1 (ints (nn mem)))), (3, V.fv q3 (.int .i64 i)), (4, V.fv q4 (.int .i64 t)), (5, V.fv q5 (.bool b)), (13, V.fv false (.int .i64 k)), (14, V.fv false (.int .i64 (plN w k xk))), (15, V.fv false (.int .i64 j)), (82, V.fv false (.bool (!tk && le && Rv)))], blk := [] }) (by
        clear hRv hlt hle hn h64
        cases tk with
        | true => simp [hb, hg, e42]
        | false =>
          cases le with
          | false => simp [hb, hg, e42, hle2, hle3]
          | true => cases b <;> cases lt <;> simp only [Bool.or_false, Bool.or_true, Bool.true_or, Bool.false_or] at e64 <;> simp [hb, hg, e42, hle2, hlt2, hle3, hlt3, fshift, hming, hpow, hpw, horv, hw9, e64]) ?_)  -- region 9
      obtain ⟨C, hCv⟩ : ∃ C, C = (!tk && le && Rv) := ⟨_, rfl⟩
      rw [← hCv]
      cases C with
      | true =>
        have hc3 : tk = false ∧ le = true ∧ Rv = true := by cases tk <;> cases le <;> cases Rv <;> simp at hCv ⊢
        obtain ⟨rfl, rfl, rfl⟩ := hc3
        refine ev_cond rfl (fun hb7 => ?_) (fun hb7 => by simp at hb7)  -- 82
        refine ev_seq (ev_reg (by simp; rfl) ?_)  -- region 10
        refine ev_ret ?_
        have := betterA_true (w := w) (x := x) (s := s) (k := k) (ks := mem.drop (i + 1)) (D := dOf t) (b := b) hgn hgm.2.2 (by rw [dOf_getD (by omega)]; exact htk) (by rw [hxk]; exact of_decide_eq_true hle.symm) (by rw [hxk, ← hlt]; exact hRv.symm)
        simp [this]
      | false =>
        refine ev_cond rfl (fun hb7 => by simp at hb7) (fun hb7 => ?_)  -- 82
        refine ev_skip ?_
        refine ev_reg (by simp [hw1]; rfl) ?_  -- region 7
        refine ⟨j + 1, by simp, ⟨by omega, fun j' h hj' => ?_⟩, by omega⟩
        by_cases e : j' = j
        · subst e
          rw [hg, htk]
          intro h1 h2
          rw [← hlt, ← hRv]
          have h3 : le = true := by rw [hle]; exact decide_eq_true h2
          rw [h1, h3] at hCv
          simpa using hCv.symm
        · exact hn j' h (by omega)
    · simp at hb
      have hjm : j = mem.length := by omega
      subst hjm
      refine ev_exit ?_  -- 0
      refine ev_seq (ev_reg (by simp; rfl) ?_)  -- region 11
      refine ev_ret ?_
      have hbad := betterA_false (w := w) (x := x) (s := s) (k := k) (ks := mem.drop (i + 1)) (D := dOf t) (b := b) (fun g h1 h2 h3 h4 => by
        rw [hxk] at h4 ⊢
        obtain ⟨j', hj', e⟩ := List.getElem_of_mem ((hmem g).mpr ⟨by omega, h1, h2⟩)
        have := hn j' hj' hj'
        rw [e] at this
        exact this (by rw [← dOf_getD (by omega)]; exact h3) h4)
      simp [hbad]
end Go.Proofs.Ytoafhoihigfllaa.E
namespace Go.Proofs.Ytoafhoihigfllaa.E
open Go Go.RowKit
set_option linter.unusedVariables false
set_option linter.unusedSimpArgs false
/-- may it be asked -/
def okAsk (w : List (Bool × List Int)) (x : List Int) (set : Int) : Bool := onceI x w.length && (decide (0 ≤ set) && decide (set ≤ 2 ^ w.length - 1))
def codeB (w : List (Bool × List Int)) (x : List Int) (set : Int) : Int := if okWishes w then (if okAsk w x set then 0 else 103) else 101
def valB (w : List (Bool × List Int)) (x : List Int) (set : Int) : Bool := okWishes w && (okAsk w x set && betterA w x set.toNat (memFrom set.toNat w.length 0) (List.replicate 8 false) false)
theorem pow_small {n : Nat} (h : n ≤ 8) : (2 : Int) ^ n = ((2 ^ n : Nat) : Int) ∧ 2 ^ n ≤ 256 ∧ 1 ≤ 2 ^ n :=
  ⟨by simp, Nat.le_trans (Nat.pow_le_pow_right (by omega) h) (by decide), Nat.one_le_two_pow⟩
theorem v28 (ctx : Ctx) (hC : CtxOk (pg ctx)) (c : Bool) (w : List (Bool × List Int)) (cx : Bool) (x : List Int) (set : Int) (h24 : H24 ctx w c) (h51 : H51 ctx) (h61 : ∀ r1 r2 c, ctx 61 [(r1, .sl c 1 (ints x)), (r2, .int .i64 w.length)] = some [.fv (.bool (orderI x w.length))])
    (h63 : okWishes w = true → okAsk w x set = true → H63 ctx c w set.toNat cx x 0) (r0 r1 r2 : Bool) :
    Valid Try.prog 28 [(r0, .sl c 1 (rowsF w)), (r1, .sl cx 1 (ints x)), (r2, .int .i64 set)] [.fv (.bool (valB w x set)), .fv (.int .i64 (codeB w x set))] := by
  refine valid_of_ev (G := pg ctx) (tok ctx) hC mixed Try.func28 T28 L28 (by simp [Try.ntmps28]) ⟨_, rfl, ?_⟩
  simp only [Try.ntmps28, Try.results28, initSt, initEnv]
  unfold H24 at h24
  unfold codeW at h24
  unfold valB codeB
  cases hok : okWishes w with
  | false =>
    rw [hok] at h24
    simp only [Bool.false_eq_true, if_false] at h24
    refine ev_seq (ev_reg (by simp [boxA, vcells]; rfl) ?_)  -- region 0
    refine ev_seq (ev_seq (ev_reg (by simp [h24]; rfl) ?_))  -- region 1
    refine ev_seq (ev_reg (by simp; rfl) ?_)  -- region 2
    refine ev_cond rfl (fun hb => ?_) (fun hb => by simp at hb)  -- 13
    refine ev_seq (ev_reg (by simp; rfl) ?_)  -- region 3
    refine ev_ret ?_
    simp
  | true =>
    rw [hok] at h24
    simp only [if_true] at h24
    have hw := okWishes_wish hok
    have h8 := hw.few
    obtain ⟨hp1, hp2, hp3⟩ := pow_small h8.2
    have hmin : min w.length IntKind.i64.bits = w.length := min_bits (by omega)
    have hpw : IntKind.i64.wrap ((2 ^ w.length : Nat) : Int) = ((2 ^ w.length : Nat) : Int) := wrap_nat (by omega)
    have hps : IntKind.i64.wrap (((2 ^ w.length : Nat) : Int) - 1) = ((2 ^ w.length : Nat) : Int) - 1 := wrap_id (by omega) (by omega)
    rw [order_once] at h61
    have hA : okAsk w x set = (onceI x w.length && (decide (0 ≤ set) && decide (set ≤ ((2 ^ w.length : Nat) : Int) - 1))) := by rw [okAsk, hp1]
    have e51 : ∀ r1 r2 r3 : Bool, ctx 51 [(r1, .int .i64 set), (r2, .int .i64 0), (r3, .int .i64 (((2 ^ w.length : Nat) : Int) - 1))] = some [.fv (.bool (decide (0 ≤ set) && decide (set ≤ ((2 ^ w.length : Nat) : Int) - 1)))] := fun r1 r2 r3 => h51 r1 r2 r3 _ _ _
    have hnn : okAsk w x set = true → 0 ≤ set := fun h => by
      simp only [okAsk, Bool.and_eq_true, decide_eq_true_eq] at h; exact h.2.1
    have h63 := h63 hok
    generalize 2 ^ w.length = p at *
    obtain ⟨A, hAe⟩ : ∃ A, A = onceI x w.length := ⟨_, rfl⟩
    obtain ⟨B, hBe⟩ : ∃ B, B = (decide (0 ≤ set) && decide (set ≤ (p : Int) - 1)) := ⟨_, rfl⟩
    rw [← hAe] at h61
    rw [← hBe] at e51
    rw [← hAe, ← hBe] at hA
    refine ev_seq (ev_reg (by simp [boxA, vcells]; rfl) ?_)  -- region 0
    refine ev_seq (ev_seq (ev_reg (by simp [h24]; rfl) ?_))  -- region 1
    refine ev_seq (ev_reg (by simp; rfl) ?_)  -- region 2
    refine ev_cond rfl (fun hb => by simp at hb) (fun hb => ?_)  -- 13
    refine ev_skip ?_
    cases A with
    | false =>
      refine ev_seq (ev_seq (ev_drw rfl (by kernel_rfl) (by kernel_rfl) (by simp [h61]; rfl) ?_))  -- region 4
      refine ev_cond rfl (fun hb => ?_) (fun hb => by simp at hb)  -- 28
      refine ev_seq (ev_reg (by simp; rfl) ?_)  -- region 5
      refine ev_ret ?_
      rw [hA]
      simp
    | true =>
      cases B with
      | false =>
        refine ev_seq (ev_seq (ev_drw rfl (by kernel_rfl) (by kernel_rfl) (by simp [h61, e51, fshift, hmin, hp1, hpw, hps]; rfl) ?_))  -- region 4
        refine ev_cond rfl (fun hb => ?_) (fun hb => by simp at hb)  -- 28
        refine ev_seq (ev_reg (by simp; rfl) ?_)  -- region 5
        refine ev_ret ?_
        rw [hA]
        simp
      | true =>
        refine ev_seq (ev_seq (ev_drw rfl (by kernel_rfl) (by kernel_rfl) (by simp [h61, e51, fshift, hmin, hp1, hpw, hps]; rfl) ?_))  -- region 4
        have hA1 : okAsk w x set = true := by rw [hA]; rfl
        have e63 := h63 hA1 (List.replicate 8 false) false (by simp)
        simp only [P63a, P63b, P63c, R63, bools, List.replicate, List.map, Int.toNat_of_nonneg (hnn hA1), Int.natCast_zero] at e63
        refine ev_cond rfl (fun hb => by simp at hb) (fun hb => ?_)  -- 28
        refine ev_skip ?_
        refine ev_seq (ev_reg (by simp; rfl) ?_)  -- region 6
        refine ev_seq (ev_reg (by simp; rfl) ?_)  -- region 7
        refine ev_seq (ev_reg (by simp [e63]; rfl) ?_)  -- region 8
        refine ev_ret ?_
        rw [hA1]
        simp
/-- numbers of a set, by the document -/
def H65 (ctx : Ctx) : Prop := ∀ (s n : Nat), s < 2^62 → n ≤ 8 → ∀ (r1 r2 : Bool), ctx 65 [(r1, .int .i64 s), (r2, .int .i64 n)] = some [.us 1 (ints (nn (memFrom s n 0)))]
theorem v29 (ctx : Ctx) (hC : CtxOk (pg ctx)) (c : Bool) (w : List (Bool × List Int)) (cx : Bool) (x : List Int) (hxl : x.length < 2^62) (set : Int) (h25 : H25 ctx w c) (h36 : H36 ctx) (h62 : H62 ctx) (h65 : H65 ctx)
    (h64 : okWishes w = true → okAsk w x set = true → H64 ctx c w set.toNat cx x 0) (r0 r1 r2 : Bool) :
    Valid Try.prog 29 [(r0, .sl c 1 (rowsF w)), (r1, .sl cx 1 (ints x)), (r2, .int .i64 set)] [.fv (.bool (valB w x set)), .fv (.int .i64 (codeB w x set))] := by
  refine valid_of_ev (G := pg ctx) (tok ctx) hC mixed Try.func29 T29 L29 (by simp [Try.ntmps29]) ⟨_, rfl, ?_⟩
  simp only [Try.ntmps29, Try.results29, initSt, initEnv]
  unfold H25 at h25
  unfold codeW at h25
  unfold valB codeB
  cases hok : okWishes w with
  | false =>
    rw [hok] at h25
    simp only [Bool.false_eq_true, if_false] at h25
    refine ev_seq (ev_reg (by simp; rfl) ?_)  -- region 0
    refine ev_seq (ev_seq (ev_reg (by simp [h25]; rfl) ?_))  -- region 1
    refine ev_seq (ev_reg (by simp; rfl) ?_)  -- region 2
    refine ev_cond rfl (fun hb => ?_) (fun hb => by simp at hb)  -- 12
    refine ev_seq (ev_reg (by simp; rfl) ?_)  -- region 3
    refine ev_ret ?_
    simp
  | true =>
    rw [hok] at h25
    simp only [if_true] at h25
    have hw := okWishes_wish hok
    have h8 := hw.few
    obtain ⟨hp1, hp2, hp3⟩ := pow_small h8.2
    have hmin : min w.length IntKind.i64.bits = w.length := min_bits (by omega)
    have hpw : IntKind.i64.wrap ((2 ^ w.length : Nat) : Int) = ((2 ^ w.length : Nat) : Int) := wrap_nat (by omega)
    have hps : IntKind.i64.wrap (((2 ^ w.length : Nat) : Int) - 1) = ((2 ^ w.length : Nat) : Int) - 1 := wrap_id (by omega) (by omega)
    have e62 := h62 x w.length hxl (by omega)
    have hA : okAsk w x set = (onceI x w.length && (decide (0 ≤ set) && decide (set ≤ ((2 ^ w.length : Nat) : Int) - 1))) := by rw [okAsk, hp1]
    have e36 : ∀ r1 r2 r3 : Bool, ctx 36 [(r1, .int .i64 set), (r2, .int .i64 0), (r3, .int .i64 (((2 ^ w.length : Nat) : Int) - 1))] = some [.fv (.bool (decide (0 ≤ set) && decide (set ≤ ((2 ^ w.length : Nat) : Int) - 1)))] := fun r1 r2 r3 => h36 r1 r2 r3 _ _ _
    have hnn : okAsk w x set = true → 0 ≤ set ∧ set < 256 := fun h => by
      simp only [hA, Bool.and_eq_true, decide_eq_true_eq] at h; omega
    have h64 := h64 hok
    have h65 := fun s h => h65 s w.length h h8.2
    generalize 2 ^ w.length = p at *
    obtain ⟨A, hAe⟩ : ∃ A, A = onceI x w.length := ⟨_, rfl⟩
    obtain ⟨B, hBe⟩ : ∃ B, B = (decide (0 ≤ set) && decide (set ≤ (p : Int) - 1)) := ⟨_, rfl⟩
    rw [← hAe] at e62
    rw [← hBe] at e36
    rw [← hAe, ← hBe] at hA
    refine ev_seq (ev_reg (by simp; rfl) ?_)  -- region 0
    refine ev_seq (ev_seq (ev_reg (by simp [h25]; rfl) ?_))  -- region 1
    refine ev_seq (ev_reg (by simp; rfl) ?_)  -- region 2
    refine ev_cond rfl (fun hb => by simp at hb) (fun hb => ?_)  -- 12
    refine ev_skip ?_
    cases A with
    | false =>
      refine ev_seq (ev_seq (ev_reg (by simp [e62]; rfl) ?_))  -- region 4
      refine ev_cond rfl (fun hb => ?_) (fun hb => by simp at hb)  -- 27
      refine ev_seq (ev_reg (by simp; rfl) ?_)  -- region 5
      refine ev_ret ?_
      rw [hA]
      simp
    | true =>
      cases B with
      | false =>
        refine ev_seq (ev_seq (ev_reg (by simp [e62, e36, fshift, hmin, hp1, hpw, hps]; rfl) ?_))  -- region 4
        refine ev_cond rfl (fun hb => ?_) (fun hb => by simp at hb)  -- 27
        refine ev_seq (ev_reg (by simp; rfl) ?_)  -- region 5
        refine ev_ret ?_
        rw [hA]
        simp
      | true =>
        have hA1 : okAsk w x set = true := by rw [hA]; rfl
        have hn := hnn hA1
        have e64 := h64 hA1 0 false (by omega)
        have e65 := h65 set.toNat (by omega)
        have hd0 : dOf 0 = List.replicate 8 false := by decide
        rw [List.drop_zero, hd0] at e64
        have htk := nn_take_all (memFrom set.toNat w.length 0) (memFrom set.toNat w.length 0).length (Nat.le_refl _)
        simp only [Int.toNat_of_nonneg hn.1, Int.natCast_zero] at e64 e65
        refine ev_seq (ev_seq (ev_reg (by simp [e62, e36, fshift, hmin, hp1, hpw, hps]; rfl) ?_))  -- region 4
        refine ev_cond rfl (fun hb => by simp at hb) (fun hb => ?_)  -- 27
        refine ev_skip ?_
        refine ev_seq (ev_reg (by simp [e65, e64, htk]; rfl) ?_)  -- region 6
        refine ev_ret ?_
        rw [hA1]
        simp
theorem v5 (ctx : Ctx) (hC : CtxOk (pg ctx)) (c : Bool) (w : List (Bool × List Int)) (cx : Bool) (x : List Int) (set : Int)
    (h28 : ∀ r0 r1 r2 : Bool, ctx 28 [(r0, .sl c 1 (rowsF w)), (r1, .sl cx 1 (ints x)), (r2, .int .i64 set)] = some [.fv (.bool (valB w x set)), .fv (.int .i64 (codeB w x set))])
    (h29 : ∀ r0 r1 r2 : Bool, ctx 29 [(r0, .sl c 1 (rowsF w)), (r1, .sl cx 1 (ints x)), (r2, .int .i64 set)] = some [.fv (.bool (valB w x set)), .fv (.int .i64 (codeB w x set))]) (h20 : ctx 20 [] = some [.fv (.bool true)]) (r0 r1 r2 : Bool) :
    Valid Try.prog 5 [(r0, .sl c 1 (rowsF w)), (r1, .sl cx 1 (ints x)), (r2, .int .i64 set)] [.fv (.bool true)] := by
  refine valid_of_ev (G := pg ctx) (tok ctx) hC mixed Try.func5 T5 L5 (by simp [Try.ntmps5]) ⟨_, rfl, ?_⟩
  simp only [Try.ntmps5, Try.results5, initSt, initEnv]
  generalize valB w x set = v at *
  generalize codeB w x set = code at *
  refine ev_seq (ev_reg (by simp; rfl) ?_)  -- region 0
  refine ev_seq (ev_reg (by simp [h28]; rfl) ?_)  -- region 1
  refine ev_seq (ev_reg (by simp [h29]; rfl) ?_)  -- region 2
  refine ev_seq (ev_reg (by simp [h20]; rfl) ?_)  -- region 3
  refine ev_ret ?_
  simp
end Go.Proofs.Ytoafhoihigfllaa.E
