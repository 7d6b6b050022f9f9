/-
  The engine, part e: addresses of fields and elements, slices of slices, parts of a struct's value, function values, lengths: all operations that make no memory, and their one law. Conditions: none; it is stated of any program and table of its types.
-/
import Derived.Test.YtoafhoihigfllaaEd
namespace Go.Proofs.Ytoafhoihigfllaa.E
open Go Go.RowKit
set_option linter.unusedVariables false

/-- A pointer, k cells further. -/
def padd (σ : St) (p : V) (k : Nat) : Option V :=
  match p with
  | .fv ro (.pt cells off) => some (.fv ro (.pt cells (off + k)))
  | .ptr s off => if pres σ s then some (.ptr s (off + k)) else none
  | .pel s i j => if pres σ s then some (.pel s i (j + k)) else none
  | _ => none
def fieldA (G : Pg) (σ : St) (t : Nat) (p : V) (i : Nat) : Option V :=
  match lk t G.tbl with
  | some ⟨_, _, _, .struct fs⟩ => match fs[i]? with
    | some (off, ft) => match lk ft G.tbl with
      | some ti => if ti.size = 0 then none else padd σ p off
      | none => none
    | none => none
  | _ => none
def intN : V → Option Int
  | .fv _ (.int _ n) => some n
  | _ => none
def indexA (G : Pg) (σ : St) (t : Nat) (p : V) (n : Int) : Option V :=
  match lk t G.tbl with
  | some ⟨_, _, _, .slice e⟩ => match lk e G.tbl with
    | some ti => match p with
      | .own s off len => match lk s σ.blk with
        | some (.arr sz _) => if 0 ≤ n ∧ n < len ∧ sz = ti.size then some (.pel s (off + n.toNat) 0) else none
        | _ => none
      | .fv ro (.sl _ sz xs) => if 0 ≤ n ∧ sz = ti.size then match xs[n.toNat]? with
          | some x => some (.fv ro (.pt (cellsOf x) 0))
          | none => none
        else none
      | _ => none
    | none => none
  | some ⟨_, _, _, .array len e⟩ => match lk e G.tbl with
    | some ti => if 0 ≤ n ∧ n < len then padd σ p (n.toNat * ti.size) else none
    | none => none
  | _ => none
def capOf (mx : Option Int) (cap : Nat) : Nat :=
  match mx with
  | some m => m.toNat
  | none => cap
def clipOf (mx : Option Int) (clip : Bool) (hi len : Int) : Bool :=
  match mx with
  | some m => decide (m = hi)
  | none => clip && decide (hi = len)
def subsl (G : Pg) (σ : St) (t : Nat) (p : V) (lo : Int) (hi mx : Option Int) : Option V :=
  match lk t G.tbl with
  | some ⟨_, _, _, .slice e⟩ => match lk e G.tbl with
    | some ti => match p with
      | .own s off len => match lk s σ.blk with
        | some (.arr sz _) =>
          if 0 ≤ lo ∧ lo ≤ hi.getD len ∧ hi.getD len ≤ mx.getD len ∧ mx.getD len ≤ len ∧ sz = ti.size then some (.own s (off + lo.toNat) ((hi.getD len).toNat - lo.toNat)) else none
        | _ => none
      | .fv ro (.sl clip sz xs) =>
        if 0 ≤ lo ∧ lo ≤ hi.getD xs.length ∧ hi.getD xs.length ≤ mx.getD xs.length ∧ mx.getD xs.length ≤ xs.length ∧ (sz = ti.size ∨ xs = []) then
          some (.fv ro (.sl (clipOf mx clip (hi.getD xs.length) xs.length) sz ((xs.drop lo.toNat).take ((hi.getD xs.length).toNat - lo.toNat)))) else none
      | _ => none
    | none => none
  | _ => none

section
variable {C : Base} {σ : St} {a : Act} {w : World} {μ : Mu} {Fz Fy : Nat → Prop} {G : Pg}
theorem padd_sound (h : Sim C σ a w μ Fz Fy) {p q : V} {k : Nat} (hp : padd σ p k = some q) {v : Value} (hv : RepV μ (shs σ) Fz Fy w p v) :
    ∃ ad : Addr, v = .pointer (some ad) ∧ RepV μ (shs σ) Fz Fy w q (.pointer (some (ad.add k))) := by
  unfold padd at hp
  split at hp
  · rename_i ro cells off
    simp only [Option.some.injEq] at hp; subst hp
    cases hv with
    | fv _ _ _ hv =>
    cases hv with
    | pt cells off b o us hb hc hr =>
    refine ⟨_, rfl, ?_⟩
    rw [add_zero' _ rfl]
    exact .fv _ _ _ (by rw [Nat.add_assoc]; exact .pt cells (off + k) b o us hb hc hr)
  · rename_i s off
    split at hp
    · rename_i hs
      simp only [Option.some.injEq] at hp; subst hp
      cases hv with
      | ptrx _ _ _ hx => exact (pres_sh hs hx).elim
      | ptr _ _ b base hm =>
      refine ⟨_, rfl, ?_⟩
      rw [add_zero' _ rfl, Nat.add_assoc]
      exact .ptr s (off + k) b base hm
    · simp at hp
  · rename_i s i j
    split at hp
    · rename_i hs
      simp only [Option.some.injEq] at hp; subst hp
      cases hv with
      | pelx _ _ _ _ hx => exact (pres_sh hs hx).elim
      | pel _ _ _ sz n b base h1 h2 hm =>
      refine ⟨_, rfl, ?_⟩
      rw [add_zero' _ rfl, show base + (i * sz + j) + k = base + (i * sz + (j + k)) from by omega]
      exact .pel s i (j + k) sz n b base h1 h2 hm
    · simp at hp
  · simp at hp
theorem fieldA_sound (hT : TOk G) (h : Sim C σ a w μ Fz Fy) {t i : Nat} {p q : V} (hp : fieldA G σ t p i = some q) {v : Value} (hv : RepV μ (shs σ) Fz Fy w p v) :
    ∃ u, (Instr.fieldAt t v i).run G.P w = .ok u w ∧ RepV μ (shs σ) Fz Fy w q u := by
  unfold fieldA at hp
  split at hp
  · rename_i s1 s2 s3 fs heq
    split at hp
    · rename_i off ft hf
      split at hp
      · rename_i ti hti
        split at hp
        · simp at hp
        · rename_i hsz
          obtain ⟨d, hd, hk⟩ := (hT t _ heq).under
          obtain ⟨fields, rfl, hfs⟩ := hk
          obtain ⟨ad, rfl, hr⟩ := padd_sound h hp hv
          rw [← hfs, List.getElem?_map, Option.map_eq_some_iff] at hf
          obtain ⟨f, hf, he⟩ := hf
          simp only [Prod.mk.injEq] at he
          obtain ⟨rfl, rfl⟩ := he
          have hf' : fields[i]? = some f := by simpa using hf
          refine ⟨_, ?_, hr⟩
          simp [Instr.fieldAt, underlying, hd, hf', Instr.sureAddr, fieldPlace, run_sizeOf' hT hti, hsz]
      · simp at hp
    · simp at hp
  · simp at hp
theorem intN_sound {ix : V} {n : Int} (hn : intN ix = some n) {v : Value} (hv : RepV μ (shs σ) Fz Fy w ix v) : ∃ k, v = .int k n := by
  unfold intN at hn
  split at hn
  · simp only [Option.some.injEq] at hn; subst hn
    cases hv with
    | fv _ _ _ hv => cases hv; exact ⟨_, rfl⟩
  · simp at hn
theorem indexA_sound (hT : TOk G) (h : Sim C σ a w μ Fz Fy) {t : Nat} {p q : V} {n : Int} (hp : indexA G σ t p n = some q) {v : Value} (hv : RepV μ (shs σ) Fz Fy w p v) (k : IntKind) :
    ∃ u, (Instr.indexAt t v (.int k n)).run G.P w = .ok u w ∧ RepV μ (shs σ) Fz Fy w q u := by
  unfold indexA at hp
  split at hp
  · rename_i s1 s2 s3 e heq
    obtain ⟨d, hd, hk⟩ := (hT t _ heq).under
    simp only [KindIs] at hk; subst hk
    split at hp
    · rename_i ti hti
      split at hp
      · rename_i s off len
        split at hp
        · rename_i sz xs hb
          split at hp
          · rename_i hc
            obtain ⟨h0, h1, rfl⟩ := hc
            simp only [Option.some.injEq] at hp; subst hp
            cases hv with
            | ownx _ _ _ _ hx => simp [shs, hb] at hx
            | own _ _ _ ad cap sz' n' hs hn hc hm =>
            rcases hm with hm | ⟨b, base, hm, rfl, hroom⟩
            · omega
            · simp only [shs, hb, Option.map_some, shp, Option.some.injEq, Prod.mk.injEq] at hs
              obtain ⟨rfl, rfl⟩ := hs
              refine ⟨.pointer (some ((⟨b, base + off * ti.size, none⟩ : Addr).add (n.toNat * ti.size))), ?_, ?_⟩
              · simp [Instr.indexAt, underlying, hd, asIntOf, run_sizeOf' hT hti, h0, h1]
              · rw [add_zero' _ rfl]
                simp only
                have e1 : base + off * ti.size + n.toNat * ti.size = base + ((off + n.toNat) * ti.size + 0) := by rw [Nat.add_mul]; omega
                rw [e1]
                exact .pel s _ 0 ti.size xs.length b base (by simp [shs, hb, shp]) (by omega) hm
          · simp at hp
        · simp at hp
      · rename_i ro clip sz xs
        split at hp
        · rename_i hc
          obtain ⟨h0, rfl⟩ := hc
          split at hp
          · rename_i x hx
            simp only [Option.some.injEq] at hp; subst hp
            have hlt : n.toNat < xs.length := (List.getElem?_eq_some_iff.1 hx).1
            cases hv with
            | fv _ _ _ hv =>
            cases hv with
            | sl0 => simp at hx
            | sl _ _ _ b o len cap us hlen hcap hclip hb hsz hc hr =>
            have h1 : n < len := by omega
            refine ⟨.pointer (some ((⟨b, o, none⟩ : Addr).add (n.toNat * ti.size))), ?_, ?_⟩
            · simp [Instr.indexAt, underlying, hd, asIntOf, run_sizeOf' hT hti, h0, h1]
            · rw [add_zero' _ rfl]
              simp only
              refine .fv _ _ _ ?_
              have := RepF.pt (Fz := roF Fz Fy ro) (w := w) (cellsOf x) 0 b (o + n.toNat * ti.size) (us n.toNat) hb (fun j y hj => by rw [Nat.add_assoc]; exact hc _ x j y hx hj) (fun j y hj => hr _ x j y hx hj)
              exact this
          · simp at hp
        · simp at hp
      · simp at hp
    · simp at hp
  · rename_i s1 s2 s3 len e heq
    obtain ⟨d, hd, hk⟩ := (hT t _ heq).under
    simp only [KindIs] at hk; subst hk
    split at hp
    · rename_i ti hti
      split at hp
      · rename_i hc
        obtain ⟨h0, h1⟩ := hc
        obtain ⟨ad, rfl, hr⟩ := padd_sound h hp hv
        exact ⟨_, by simp [Instr.indexAt, underlying, hd, asIntOf, Instr.sureAddr, run_sizeOf' hT hti, h0, h1], hr⟩
      · simp at hp
    · simp at hp
  · simp at hp

def intOV : Option Int → Option Value → Prop
  | none, none => True
  | some n, some v => ∃ k, v = .int k n
  | _, _ => False
theorem bounds_sound {P : Program} {len cap : Nat} (hlc : len ≤ cap) {lo : Int} {hi mx : Option Int} {vl vh vm : Option Value} (h0 : 0 ≤ lo) (h1 : lo ≤ hi.getD len) (h2 : hi.getD len ≤ mx.getD len) (h3 : mx.getD len ≤ len)
    (hl : vl = none ∧ lo = 0 ∨ ∃ k, vl = some (.int k lo)) (hh : intOV hi vh) (hm : intOV mx vm) (hmh : mx = none ∨ hi ≠ none) (w : World) :
    (Instr.sliceBounds true len cap vl vh vm).run P w = .ok (lo.toNat, (hi.getD len).toNat, capOf mx cap) w := by
  have e1 : ∀ (k : IntKind) (n : Int) (y : Nat) (c : BoundsCode), 0 ≤ n → n ≤ y → (Instr.sliceBound (.int k n) y c).run P w = .ok n.toNat w := fun k n y c a b => by simp [Instr.sliceBound, asIntOf, a, b]
  cases mx with
  | none =>
    cases vm with
    | some => simp [intOV] at hm
    | none =>
    cases hi with
    | none =>
      cases vh with
      | some => simp [intOV] at hh
      | none =>
      simp only [Option.getD_none, capOf] at h1 h2 h3 ⊢
      rcases hl with ⟨rfl, rfl⟩ | ⟨k, rfl⟩
      · simp [Instr.sliceBounds]
      · simp [Instr.sliceBounds, e1 _ _ _ _ h0 h1]
    | some hn =>
      cases vh with
      | none => simp [intOV] at hh
      | some vh =>
      obtain ⟨k', rfl⟩ := hh
      simp only [Option.getD_some, Option.getD_none, capOf] at h1 h2 h3 ⊢
      have a1 : (hn : Int) ≤ (cap : Nat) := by omega
      have a2 : lo ≤ (hn.toNat : Nat) := by omega
      rcases hl with ⟨rfl, rfl⟩ | ⟨k, rfl⟩
      · simp [Instr.sliceBounds, e1 _ _ _ _ (by omega) a1]
      · simp [Instr.sliceBounds, e1 _ _ _ _ (by omega) a1, e1 _ _ _ _ h0 a2]
  | some m =>
    cases vm with
    | none => simp [intOV] at hm
    | some vm =>
    obtain ⟨km, rfl⟩ := hm
    cases hi with
    | none => simp at hmh
    | some hn =>
      cases vh with
      | none => simp [intOV] at hh
      | some vh =>
      obtain ⟨k', rfl⟩ := hh
      simp only [Option.getD_some, capOf] at h1 h2 h3 ⊢
      have a0 : m ≤ (cap : Nat) := by omega
      have a1 : (hn : Int) ≤ (m.toNat : Nat) := by omega
      have a2 : lo ≤ (hn.toNat : Nat) := by omega
      rcases hl with ⟨rfl, rfl⟩ | ⟨k, rfl⟩
      · simp [Instr.sliceBounds, e1 _ _ _ _ (by omega) a0, e1 _ _ _ _ (by omega) a1]
      · simp [Instr.sliceBounds, e1 _ _ _ _ (by omega) a0, e1 _ _ _ _ (by omega) a1, e1 _ _ _ _ h0 a2]
theorem subsl_sound (hT : TOk G) (h : Sim C σ a w μ Fz Fy) {t : Nat} {p q : V} {lo : Int} {hi mx : Option Int} (hp : subsl G σ t p lo hi mx = some q) {v : Value} (hv : RepV μ (shs σ) Fz Fy w p v)
    {vl vh vm : Option Value} (hl : vl = none ∧ lo = 0 ∨ ∃ k, vl = some (.int k lo)) (hh : intOV hi vh) (hm : intOV mx vm) (hmh : mx = none ∨ hi ≠ none) :
    ∃ u, (Instr.sliceAt t v vl vh vm).run G.P w = .ok u w ∧ RepV μ (shs σ) Fz Fy w q u := by
  unfold subsl at hp
  split at hp
  · rename_i s1 s2 s3 e heq
    obtain ⟨d, hd, hk⟩ := (hT t _ heq).under
    simp only [KindIs] at hk; subst hk
    split at hp
    · rename_i ti hti
      split at hp
      · rename_i s off len
        split at hp
        · rename_i sz xs hb
          split at hp
          · rename_i hc
            obtain ⟨h0, h1, h2, h3, rfl⟩ := hc
            simp only [Option.some.injEq] at hp; subst hp
            cases hv with
            | ownx _ _ _ _ hx => simp [shs, hb] at hx
            | own _ _ _ ad cap sz' n' hs hn hcap hmm =>
            simp only [shs, hb, Option.map_some, shp, Option.some.injEq, Prod.mk.injEq] at hs
            obtain ⟨rfl, rfl⟩ := hs
            have hrun := bounds_sound (P := G.P) hcap h0 h1 h2 h3 hl hh hm hmh w
            refine ⟨.slice (if (capOf mx cap) = lo.toNat then ad else ad.map (·.add (lo.toNat * ti.size))) ((hi.getD len).toNat - lo.toNat) ((capOf mx cap) - lo.toNat), ?_, ?_⟩
            · simp only [Instr.sliceAt, underlying, Sem.run_bind, run_program, Result.andThen_ok, hd, Sem.run_pure, Instr.slice, hrun, run_sizeOf' hT hti]
            · have hM : lo.toNat ≤ (capOf mx cap) ∧ (hi.getD len).toNat ≤ (capOf mx cap) ∧ (capOf mx cap) ≤ cap := by
                cases mx with
                | none => simp only [Option.getD_none, capOf] at h2 h3 ⊢; omega
                | some m => simp only [Option.getD_some, capOf] at h2 h3 ⊢; omega
              generalize (capOf mx cap) = M at hM ⊢
              refine .own s _ _ _ _ ti.size xs.length (by simp [shs, hb, shp]) (by omega) (by omega) ?_
              by_cases hz : M = lo.toNat
              · left; omega
              · right
                rcases hmm with hmm | ⟨b, base, hmb, rfl, hroom⟩
                · omega
                · refine ⟨b, base, hmb, ?_, ?_⟩
                  · rw [if_neg hz]
                    simp only [Option.map_some]
                    rw [add_zero' _ rfl, Nat.add_mul, Nat.add_assoc]
                  · obtain ⟨c, e', hce, hcs⟩ := hroom
                    refine ⟨c, e', hce, Nat.le_trans ?_ hcs⟩
                    refine Nat.add_le_add_left (Nat.mul_le_mul_right _ ?_) _
                    omega
          · simp at hp
        · simp at hp
      · rename_i ro clip sz xs
        split at hp
        · rename_i hc
          obtain ⟨h0, h1, h2, h3, hsz⟩ := hc
          simp only [Option.some.injEq] at hp; subst hp
          cases hv with
          | fv _ _ _ hv =>
          cases hv with
          | sl0 clip sz ad cap hcl =>
            have h0' : lo = 0 ∧ hi.getD 0 = 0 ∧ mx.getD 0 = 0 := by
              have e0 : ((([] : List FV).length : Nat) : Int) = 0 := rfl
              rw [e0] at h1 h2 h3
              refine ⟨?_, ?_, ?_⟩ <;> omega
            have e0 : (((0 : Nat) : Int)) = 0 := rfl
            have hb1 : (0 : Int) ≤ hi.getD ((0 : Nat) : Int) := by rw [e0]; omega
            have hb2 : hi.getD ((0 : Nat) : Int) ≤ mx.getD ((0 : Nat) : Int) := by rw [e0]; omega
            have hb3 : mx.getD ((0 : Nat) : Int) ≤ ((0 : Nat) : Int) := by rw [e0]; omega
            obtain ⟨rfl, hh0, hm0⟩ := h0'
            have hrun := bounds_sound (P := G.P) (len := 0) (Nat.zero_le cap) (Int.le_refl 0) hb1 hb2 hb3 hl hh hm hmh w
            refine ⟨.slice (if (capOf mx cap) = 0 then ad else ad.map (·.add (0 * ti.size))) 0 (capOf mx cap), ?_, ?_⟩
            · simp only [Instr.sliceAt, underlying, Sem.run_bind, run_program, Result.andThen_ok, hd, Sem.run_pure, Instr.slice, hrun, run_sizeOf' hT hti]
              have e : (((0 : Nat) : Int)) = 0 := rfl
              simp only [e, hh0, Int.toNat_zero, Nat.sub_zero]
            · refine .fv _ _ _ ?_
              simp only [List.drop_nil, List.take_nil]
              refine .sl0 _ _ _ _ fun hcl' => ?_
              cases mx with
              | none => simp only [Bool.and_eq_true, clipOf, capOf] at hcl' ⊢; rw [hcl hcl'.1]
              | some m => simp only [Option.getD_some] at hm0; subst hm0; rfl
          | sl clip sz xs b o len cap us hlen hcap hclip hb hsz' hc hr =>
            subst hlen
            have hrun := bounds_sound (P := G.P) hcap h0 h1 h2 h3 hl hh hm hmh w
            have hne : sz = ti.size ∨ xs = [] := hsz
            refine ⟨.slice (if (capOf mx cap) = lo.toNat then some ⟨b, o, none⟩ else (some (⟨b, o, none⟩ : Addr)).map (·.add (lo.toNat * ti.size))) ((hi.getD xs.length).toNat - lo.toNat) ((capOf mx cap) - lo.toNat), ?_, ?_⟩
            · simp only [Instr.sliceAt, underlying, Sem.run_bind, run_program, Result.andThen_ok, hd, Sem.run_pure, Instr.slice, hrun, run_sizeOf' hT hti]
            · have hM : lo.toNat ≤ (capOf mx cap) ∧ (hi.getD xs.length).toNat ≤ (capOf mx cap) ∧ (capOf mx cap) ≤ cap := by
                cases mx with
                | none => simp only [Option.getD_none, capOf] at h2 h3 ⊢; omega
                | some m => simp only [Option.getD_some, capOf] at h2 h3 ⊢; omega
              have hclp : (clipOf mx clip (hi.getD xs.length) xs.length) = true → (capOf mx cap) = (hi.getD xs.length).toNat := by
                cases mx with
                | none => simp only [Bool.and_eq_true, decide_eq_true_eq, clipOf, capOf]; rintro ⟨h5, h6⟩; have := hclip h5; omega
                | some m => simp only [decide_eq_true_eq, clipOf, capOf]; rintro rfl; rfl
              generalize (capOf mx cap) = M at hM hclp ⊢
              generalize clipOf mx clip (hi.getD xs.length) xs.length = clp at hclp ⊢
              refine .fv _ _ _ ?_
              have hhl : (hi.getD xs.length).toNat ≤ xs.length := by omega
              by_cases hnil : (hi.getD xs.length).toNat - lo.toNat = 0
              · rw [hnil]; simp only [List.take_zero]
                exact .sl0 _ _ _ _ fun hcl' => by have := hclp hcl'; omega
              · have hz : M ≠ lo.toNat := by omega
                rw [if_neg hz]
                simp only [Option.map_some]
                rw [add_zero' _ rfl]
                have hne' : sz = ti.size := by
                  rcases hne with h | h
                  · exact h
                  · have : xs.length = 0 := by rw [h]; rfl
                    omega
                subst hne'
                refine .sl _ _ _ b (o + lo.toNat * ti.size) _ _ (fun i j => us (lo.toNat + i) j) ?_ (by omega) (fun hcl' => by have := hclp hcl'; omega) hb ?_ ?_ ?_
                · simp; omega
                · intro i x hx; exact hsz' _ x (drop_take_get hx).1
                · intro i x j y hx hj
                  have := hc _ x j y (drop_take_get hx).1 hj
                  rw [← this]
                  congr 2
                  rw [Nat.add_mul]; omega
                · intro i x j y hx hj; exact hr _ x j y (drop_take_get hx).1 hj
        · simp at hp
      · simp at hp
    · simp at hp
  · simp at hp
end
end Go.Proofs.Ytoafhoihigfllaa.E
