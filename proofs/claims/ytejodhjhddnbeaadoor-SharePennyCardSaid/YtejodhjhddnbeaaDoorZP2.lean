/-
  The theorem of the shares (SharePenny): all shares of a voyage are together what is divided: nothing is left over; each part is divided fairly, by parts of the boat, claims, and what hands count; names are told once, increasing, for any voyage. Conditions: none.
-/
import Derived.Test.YtejodhjhddnbeaaDoorZ25
import Derived.Test.YtejodhjhddnbeaaDoorZP1
set_option linter.unusedVariables false
set_option linter.unusedSimpArgs false
namespace Go.Proofs.YtejodhjhddnbeaaDoor.E
open Go Go.RowKit
def GeF (x y : FV) : Prop := ∀ (Fz : Nat → Prop) (w : World) (v : Value),RepF Fz w x v → RepF Fz w y v
theorem ge_refl (x : FV) : GeF x x := fun _ _ _ h => h
theorem ge_nil (sz : Nat) : GeF (.sl true 0 []) (.sl false sz []) := fun Fz w v h => by
  cases h with
  | sl0 _ _ a cap hc => exact .sl0 false sz a cap (by simp)
  | sl _ _ xs b o len cap us hlen hcap hclip hb hsz hc hr =>
    simp at hlen
    subst hlen
    exact .sl0 false sz _ cap (by simp)
def LW (sz : Nat) (xs : List FV) (x : FV) : Prop := x = .sl false sz xs ∨ (xs = [] ∧ x = .sl true 0 [])
theorem LW.ge {sz : Nat} {xs : List FV} {x : FV} (h : LW sz xs x) : GeF x (.sl false sz xs) := by
  rcases h with rfl | ⟨rfl,rfl⟩
  · exact ge_refl _
  · exact ge_nil sz
theorem LW.one {sz : Nat} {xs ys : List FV} {x : FV} (h : LW sz xs x) (h' : LW sz ys x) : xs = ys := by
  rcases h with h | ⟨h1,h2⟩
  · rcases h' with h' | ⟨h3,h4⟩
    · rw [h] at h'; cases h'; rfl
    · rw [h] at h4; cases h4
  · rcases h' with h' | ⟨h3,h4⟩
    · rw [h2] at h'; cases h'
    · rw [h1,h3]
def voyX (v : Voy) (c o l h n : FV) : FV := .agg [.int .i64 v.gross,c,.int .i64 v.boat,.int .i64 v.nets,.int .i64 v.crew,o,l,h,n]
structure VoyW (v : Voy) (c o l h n : FV) : Prop where
  c : LW 1 (ints v.costs) c
  o : LW 2 (stL v.own) o
  l : LW 2 (stL v.lend) l
  h : LW 2 (stL v.hand) h
  n : LW 4 (loL v.loans) n
theorem VoyW.self (v : Voy) : VoyW v (.sl false 1 (ints v.costs)) (.sl false 2 (stL v.own)) (.sl false 2 (stL v.lend)) (.sl false 2 (stL v.hand)) (.sl false 4 (loL v.loans)) := ⟨.inl rfl,.inl rfl,.inl rfl,.inl rfl,.inl rfl⟩
def H25x (ctx : Ctx) : Prop := ∀ (v : Voy) (c o l h n : FV),Small v → VoyW v c o l h n → ctx 25 [(false,voyX v c o l h n)] = some [.us 4 (duL (sharesF v)),.fv (.int .i64 (checkF v))]
theorem H25x.at {ctx : Ctx} (h : H25x ctx) (v : Voy) (hv : Small v) : ctx 25 [(false,voyF v)] = some [.us 4 (duL (sharesF v)),.fv (.int .i64 (checkF v))] := h v _ _ _ _ _ hv (VoyW.self v)
theorem v35 (ctx : Ctx) (hC : CtxOk (pg ctx)) (l : List Due) (n : ByteArray) (hl : l.length < 2^44) (ro r1 c : Bool) : Valid Tryd.prog 35 [(ro,.sl c 4 (duL l)),(r1,.str n)] [.fv (duF (dueS l n).1),.fv (.bool ((dueS l n).2 == 1))] := by
  refine valid_of_ev (G := pg ctx) (tok ctx) hC mixed Tryd.func35 T35 L35 (by simp [Tryd.ntmps35]) ⟨_,rfl,?_⟩
  simp only [Tryd.ntmps35,Tryd.results35,initSt,initEnv]
  refine ev_seq (ev_reg (by simp; rfl) ?_)
  refine ev_seq (ev_reg (by simp; rfl) ?_)
  refine ev_seq (ev_reg (by simp; rfl) ?_)
  refine ev_seq (ev_seq (ev_reg (by simp; rfl) ?_))
  refine ev_block ?_
  refine ev_loop (fun i : Nat => ({ env := [(0,V.fv ro (.sl c 4 (duL l))),(1,V.fv r1 (.str n)),(4,V.ptr 4 0),(6,V.ptr 6 0),(7,V.fv false (.int .i64 (dueS (l.take i) n).2)),(8,V.fv false (.int .i64 i))],blk := [(4,.box [.fv false (.str .empty),.fv false (.int .i64 0),.fv false (.int .i64 0),.fv false (.int .i64 0)]),(6,.box [.fv false (.str (dueS (l.take i) n).1.n),.fv false (.int .i64 (dueS (l.take i) n).1.b),.fv false (.int .i64 (dueS (l.take i) n).1.t),.fv false (.int .i64 (dueS (l.take i) n).1.c)])] } : St)) (fun i => l.length - i) (fun i => i ≤ l.length) 0 (by simp [dueS]) (by simp) (by simp [R]; omega) (fun i hi => ?_)
  refine ev_seq (ev_seq (ev_reg (by simp; rfl) ?_))
  refine ev_cond rfl (fun hb => ?_) (fun hb => ?_)
  · simp at hb
    have hs := dueS_take l n i hb
    generalize dueS (l.take i) n = s at hs
    refine ev_skip ?_
    refine ev_seq (ev_block ?_)
    refine ev_seq (ev_reg (by simp [hb]; rfl) ?_)
    refine ev_cond rfl (fun hb2 => ?_) (fun hb2 => ?_)
    · simp only [dueStep,hb2,if_true] at hs
      refine ev_seq (ev_reg (by simp [hb]; rfl) ?_)
      refine ev_reg (by simp; rfl) ?_
      refine ev_reg (by simp; rfl) ?_
      refine ⟨i + 1,?_,by omega,by omega⟩
      simp [hs]
      exact wrap_nat (n := i + 1) (by omega)
    · simp only [dueStep,hb2,Bool.false_eq_true,if_false] at hs
      refine ev_skip ?_
      refine ev_reg (by simp; rfl) ?_
      refine ⟨i + 1,?_,by omega,by omega⟩
      simp [hs]
      exact wrap_nat (n := i + 1) (by omega)
  · simp at hb
    rw [List.take_of_length_le hb]
    refine ev_exit ?_
    refine ev_seq (ev_reg (by simp; rfl) ?_)
    refine ev_ret ?_
    simp [duF]
def H35 (ctx : Ctx) : Prop := ∀ (l : List Due) (n : ByteArray) (ro r1 c : Bool),l.length < 2^44 → ctx 35 [(ro,.sl c 4 (duL l)),(r1,.str n)] = some [.fv (duF (dueS l n).1),.fv (.bool ((dueS l n).2 == 1))]
theorem v30 (ctx : Ctx) (hC : CtxOk (pg ctx)) (h34 : H34 ctx) (sum : Int) (l w : List Int) (h : FairP sum l w) (r0 r1 r2 c1 c2 : Bool) : Valid Tryd.prog 30 [(r0,.int .i64 sum),(r1,.sl c1 1 (ints l)),(r2,.sl c2 1 (ints w))] [.fv (.bool true)] := by
  refine valid_of_ev (G := pg ctx) (tok ctx) hC mixed Tryd.func30 T30 L30 (by simp [Tryd.ntmps30]) ⟨_,rfl,?_⟩
  simp only [Tryd.ntmps30,Tryd.results30,initSt,initEnv]
  have hlen := h.len
  have hn := h.n
  have hp := h.pos
  obtain ⟨s0,s1⟩ := h.s
  have hw := h.w0
  obtain ⟨q1,q2,q3⟩ := sumI_eq (B := 1000000) (by omega) w hw (by omega)
  have hl : ∀ x ∈ l,0 ≤ x ∧ x ≤ 10000000 := fun x hx => by
    have := mem_le_sum h.nn x hx
    have := h.nn x hx
    have := h.tot
    omega
  obtain ⟨p1,p2,p3⟩ := sumI_eq (B := 10000000) (by omega) l hl (by omega)
  rw [h.tot] at p1
  have hS : w.sum ≤ 10000000 := by omega
  have e34a : ∀ r c,ctx 34 [(r,.sl c 1 (ints l))] = some [.fv (.int .i64 sum)] := fun r c => by rw [h34 l r c (by omega),p1]
  have e34b : ∀ r c,ctx 34 [(r,.sl c 1 (ints w))] = some [.fv (.int .i64 w.sum)] := fun r c => by rw [h34 w r c (by omega),q1]
  generalize hSS : w.sum = S at e34b hp hS q3
  have hlenI : (l.length : Int) = w.length := by omega
  have hp1 : ¬ S < 1 := by omega
  refine ev_seq (ev_reg (by simp; rfl) ?_)
  refine ev_seq (ev_reg (by simp [e34b]; rfl) ?_)
  refine ev_seq (ev_seq (ev_reg (by simp [hlen,e34a,hp1]; rfl) ?_))
  refine ev_cond rfl (fun hb => ?_) (fun hb => ?_)
  · simp at hb
  · refine ev_skip ?_
    refine ev_seq (ev_seq (ev_reg (by simp; rfl) ?_))
    refine ev_block ?_
    refine ev_loop (fun i : Nat => ({ env := [(0,V.fv r0 (.int .i64 sum)),(1,V.fv r1 (.sl c1 1 (ints l))),(2,V.fv r2 (.sl c2 1 (ints w))),(7,V.fv false (.int .i64 S)),(8,V.fv false (.int .i64 i))],blk := [] } : St)) (fun i => l.length - i) (fun i => i ≤ l.length) 0 rfl (by simp) (by simp [R]; omega) (fun i hi => ?_)
    refine ev_seq (ev_seq (ev_reg (by simp; rfl) ?_))
    refine ev_cond rfl (fun hb => ?_) (fun hb => ?_)
    · simp at hb
      have hb' : i < w.length := by omega
      have ho := h.off i hb
      have g1 : l.getD i 0 = l[i] := by simp [List.getD_eq_getElem?_getD,hb]
      have g2 : w.getD i 0 = w[i] := by simp [List.getD_eq_getElem?_getD,hb']
      rw [g1,g2,hSS] at ho
      have b1 := hl _ (List.getElem_mem hb)
      have b2 := hw _ (List.getElem_mem hb')
      have m1 : 0 ≤ l[i] * S ∧ l[i] * S ≤ 100000000000000 := by
        refine ⟨Int.mul_nonneg b1.1 (by omega),?_⟩
        calc l[i] * S ≤ 10000000 * S := Int.mul_le_mul_of_nonneg_right b1.2 (by omega)
          _ ≤ 10000000 * 10000000 := Int.mul_le_mul_of_nonneg_left hS (by omega)
      have m2 : 0 ≤ sum * w[i] ∧ sum * w[i] ≤ 10000000000000 := by
        refine ⟨Int.mul_nonneg s0 b2.1,?_⟩
        calc sum * w[i] ≤ 10000000 * w[i] := Int.mul_le_mul_of_nonneg_right s1 b2.1
          _ ≤ 10000000 * 1000000 := Int.mul_le_mul_of_nonneg_left b2.2 (by omega)
      have w1 : IntKind.i64.wrap (l[i] * S) = l[i] * S := wrap_id (by omega) (by omega)
      have w2 : IntKind.i64.wrap (sum * w[i]) = sum * w[i] := wrap_id (by omega) (by omega)
      have w3 : IntKind.i64.wrap (l[i] * S - sum * w[i]) = l[i] * S - sum * w[i] := wrap_id (by omega) (by omega)
      have w4 : IntKind.i64.wrap (-S) = -S := wrap_id (by omega) (by omega)
      refine ev_skip ?_
      refine ev_seq (ev_block ?_)
      refine ev_seq (ev_seq (ev_drw rfl (by kernel_rfl) (by kernel_rfl) (by simp [hb,hb',w1,w2,w3]; rfl) ?_))
      have n1 : ¬ l[i] < 0 := by omega
      have n2 : ¬ l[i] * S - sum * w[i] ≤ -S := by omega
      have n3 : ¬ S ≤ l[i] * S - sum * w[i] := by omega
      generalize l[i] * S - sum * w[i] = off at n2 n3
      refine ev_seq (ev_reg (by simp [hb,hb',w4,n1,n2,n3]; rfl) ?_)
      refine ev_cond rfl (fun hb => ?_) (fun hb => ?_)
      · simp at hb
      · refine ev_skip ?_
        refine ev_seq (ev_reg (by simp; rfl) ?_)
        refine ev_block ?_
        refine ev_loop (fun k : Nat => ({ env := [(0,V.fv r0 (.int .i64 sum)),(1,V.fv r1 (.sl c1 1 (ints l))),(2,V.fv r2 (.sl c2 1 (ints w))),(7,V.fv false (.int .i64 S)),(8,V.fv false (.int .i64 i)),(10,V.fv false (.int .i64 k))],blk := [] } : St)) (fun k => l.length - k) (fun k => k ≤ l.length) 0 rfl (by simp) (by simp [R]; omega) (fun k hk => ?_)
        refine ev_seq (ev_seq (ev_reg (by simp; rfl) ?_))
        refine ev_cond rfl (fun hb2 => ?_) (fun hb2 => ?_)
        · simp at hb2
          have hb2' : k < w.length := by omega
          have hm := h.mono i k (by omega) hb2
          have g3 : l.getD k 0 = l[k] := by simp [List.getD_eq_getElem?_getD,hb2]
          have g4 : w.getD k 0 = w[k] := by simp [List.getD_eq_getElem?_getD,hb2']
          rw [g1,g2,g3,g4] at hm
          refine ev_skip ?_
          refine ev_seq (ev_block ?_)
          by_cases hgt : w[k] < w[i]
          · have hnl : ¬ l[i] < l[k] := by have := hm hgt; omega
            refine ev_seq (ev_drw rfl (by kernel_rfl) (by kernel_rfl) (by simp [hb',hb2,hb2',hgt,hnl,show i < l.length by omega]; rfl) ?_)
            refine ev_cond rfl (fun hb => ?_) (fun hb => ?_)
            · simp at hb
            · refine ev_skip ?_
              refine ev_reg (by simp; rfl) ?_
              refine ⟨k + 1,?_,by omega,by omega⟩
              simp
              exact wrap_nat (n := k + 1) (by omega)
          · refine ev_seq (ev_drw rfl (by kernel_rfl) (by kernel_rfl) (by simp [hb',hb2,hb2',hgt,unsetS,show i < l.length by omega]; rfl) ?_)
            refine ev_cond rfl (fun hb => ?_) (fun hb => ?_)
            · simp at hb
            · refine ev_skip ?_
              refine ev_reg (by simp; rfl) ?_
              refine ⟨k + 1,?_,by omega,by omega⟩
              simp
              exact wrap_nat (n := k + 1) (by omega)
        · simp at hb2
          refine ev_exit ?_
          refine ev_reg (by simp; rfl) ?_
          refine ⟨i + 1,?_,by omega,by omega⟩
          simp
          exact wrap_nat (n := i + 1) (by omega)
    · simp at hb
      refine ev_exit ?_
      refine ev_seq (ev_reg (by simp; rfl) ?_)
      refine ev_ret ?_
      simp
def H30 (ctx : Ctx) : Prop := ∀ (sum : Int) (l w : List Int) (r0 r1 r2 c1 c2 : Bool),FairP sum l w → ctx 30 [(r0,.int .i64 sum),(r1,.sl c1 1 (ints l)),(r2,.sl c2 1 (ints w))] = some [.fv (.bool true)]
theorem bl_of : ∀ {a b : List UInt8},Go.Lib.compareBytes a b < 0 → Op.bytesLess a b = true
  | _,[],h => by rename_i a; cases a <;> simp [Go.Lib.compareBytes] at h
  | [],_ :: _,_ => rfl
  | x :: a,y :: b,h => by
    unfold Go.Lib.compareBytes at h
    simp only [Op.bytesLess,Bool.or_eq_true,Bool.and_eq_true,decide_eq_true_eq,beq_iff_eq]
    rcases u8_cases x y with k | k | k
    · exact .inl k
    · subst k
      simp only [u8_irr,if_false] at h
      exact .inr ⟨rfl,bl_of h⟩
    · rw [if_neg (u8_asym k),if_pos k] at h
      omega
theorem sless_of {a b : ByteArray} (h : nlt a b) : sless a b = true := bl_of h
def colF (l : List Due) (f : Due → Int) (s : List Stk) (i : Nat) : List Int := (s.take i).map fun p => f (dueS l p.1).1
@[simp] theorem colF_length (l : List Due) (f : Due → Int) (s : List Stk) (i : Nat) (h : i ≤ s.length) : (colF l f s i).length = i := by simp [colF]; omega
theorem colF_succ (l : List Due) (f : Due → Int) (s : List Stk) (i : Nat) (h : i < s.length) : colF l f s (i + 1) = colF l f s i ++ [f (dueS l s[i].1).1] := by
  unfold colF
  rw [List.take_add_one,List.getElem?_eq_getElem h,Option.toList_some,List.map_append]
  rfl
theorem col_is {v : Voy} (h : checkF v = 0) {k : Nat} (hk : k < 3) {f : Due → Int} (hf : ∀ x ∈ sharesF v,f x = valV v k x.n) : colF (sharesF v) f (partL v k) (partL v k).length = gotF v k := by
  obtain ⟨e1,e2,e3⟩ := partS_facts h k hk
  have hl := gotF_length h k hk
  have hd := partS_nodup h k hk
  refine List.ext_getElem (by simp [hl,e1]) fun i h1 h2 => ?_
  have hi : i < (partL v k).length := by simpa using h1
  have hi' : i < (partS v k).length := by omega
  have hn : (partL v k)[i].1 = (partS v k)[i].1 := by
    have a1 : ((partL v k).map (·.1))[i]'(by simpa using hi) = (partL v k)[i].1 := by simp
    have a2 : ((partS v k).map (·.1))[i]'(by simpa using hi') = (partS v k)[i].1 := by simp
    rw [← a1,← a2]
    simp only [e2]
  obtain ⟨x,hx,hxn,hdu⟩ := shares_due h hk (n := (partS v k)[i].1) (List.mem_map_of_mem (List.getElem_mem hi'))
  simp only [colF,List.getElem_map,List.getElem_take,hn,hdu,hf x hx,hxn,valV]
  rw [valL_at hd hl hi']
  simp [List.getD_eq_getElem?_getD,h2]
theorem due_once {v : Voy} (h : checkF v = 0) {k : Nat} (hk : k < 3) {i : Nat} (hi : i < (partL v k).length) : (dueS (sharesF v) (partL v k)[i].1).2 = 1 := by
  obtain ⟨e1,e2,e3⟩ := partS_facts h k hk
  have hm : (partL v k)[i].1 ∈ (partS v k).map (·.1) := by
    rw [e2]; exact List.mem_map_of_mem (List.getElem_mem hi)
  obtain ⟨x,hx,hxn,hdu⟩ := shares_due h hk hm
  rw [hdu]
theorem got_fair {v : Voy} (h : checkF v = 0) {k : Nat} (hk : k < 3) (he : partE v k ≠ 0) : FairP ((threeF v).getD k 0) (gotF v k) (wts (partS v k)) := by
  have hp : 0 < partE v k := by have := ((check_ok h).1.e k hk).1; omega
  have := div_fair ((partS_facts h k hk).2.2 hp)
  unfold gotF
  rw [if_pos hp]
  exact this
theorem three_list (v : Voy) : threeF v = [(threeF v).getD 0 0,(threeF v).getD 1 0,(threeF v).getD 2 0] := by
  have h2 := threeF_len v
  match hx : threeF v,h2 with
  | [a,b,c],_ => simp
theorem three_fair {v : Voy} (h : VoyOk v) : FairP (netF v) [(threeF v).getD 0 0,(threeF v).getD 1 0,(threeF v).getD 2 0] [v.boat,v.nets,v.crew] := by
  have := div_fair h.div3
  have e : divF (netF v) (parts3 v) = [(threeF v).getD 0 0,(threeF v).getD 1 0,(threeF v).getD 2 0] := three_list v
  rw [e] at this
  exact this
def st8 (v : Voy) (b0 b1 b2 : Int) (d : List Due) (c : List Int) (e : List (Nat × V)) : St := { env := [(1,V.ptr 1 0),(3,.own 3 0 d.length),(5,.fv false (.int .i64 b0)),(6,.fv false (.int .i64 b1)),(7,.fv false (.int .i64 b2)),(9,.own 9 0 c.length),(11,.fv false (.int .i64 (netF v)))] ++ e,blk := [(1,.box [.fv false (.int .i64 v.gross),.fv false (.sl false 1 (ints v.costs)),.fv false (.int .i64 v.boat),.fv false (.int .i64 v.nets),.fv false (.int .i64 v.crew),.fv false (.sl false 2 (stL v.own)),.fv false (.sl false 2 (stL v.lend)),.fv false (.sl false 2 (stL v.hand)),.fv false (.sl false 4 (loL v.loans))]),(3,.arr 4 (duL d)),(9,.arr 1 (ints c))] }
def st8x (v : Voy) (b0 b1 b2 : Int) (d : List Due) (c : List Int) (A B C : List Int) (e : List (Nat × V)) : St := { env := [(1,V.ptr 1 0),(3,.own 3 0 d.length),(5,.fv false (.int .i64 b0)),(6,.fv false (.int .i64 b1)),(7,.fv false (.int .i64 b2)),(9,.own 9 0 c.length),(11,.fv false (.int .i64 (netF v))),(12,.fv false (.int .i64 (netF v))),(14,.own 14 0 A.length),(15,.own 15 0 B.length),(16,.own 16 0 C.length)] ++ e,blk := [(1,.box [.fv false (.int .i64 v.gross),.fv false (.sl false 1 (ints v.costs)),.fv false (.int .i64 v.boat),.fv false (.int .i64 v.nets),.fv false (.int .i64 v.crew),.fv false (.sl false 2 (stL v.own)),.fv false (.sl false 2 (stL v.lend)),.fv false (.sl false 2 (stL v.hand)),.fv false (.sl false 4 (loL v.loans))]),(3,.arr 4 (duL d)),(9,.arr 1 (ints c)),(14,.arr 1 (ints A)),(15,.arr 1 (ints B)),(16,.arr 1 (ints C))] }
set_option maxRecDepth 100000 in
set_option maxHeartbeats 3200000 in
theorem v8 (ctx : Ctx) (hC : CtxOk (pg ctx)) (h18 : H18 ctx) (h19 : H19 ctx) (h23 : H23 ctx) (h25 : H25 ctx) (h30 : H30 ctx) (h31 : H31 ctx) (h33 : H33 ctx) (h34 : H34 ctx) (h35 : H35 ctx) (v : Voy) (hv : Small v) : Valid Tryd.prog 8 [(false,voyF v)] [.fv (.bool true)] := by
  refine valid_of_ev (G := pg ctx) (tok ctx) hC mixed Tryd.func8 T8 L8 (by simp [Tryd.ntmps8]) ⟨_,rfl,?_⟩
  simp only [Tryd.ntmps8,Tryd.results8,initSt,initEnv,voyF,voyC]
  have e25 := h25 v hv
  have e23 := h23 v hv
  have e19 := h19 v hv
  have e33 := h33 v hv
  simp only [voyF,voyC] at e25 e23 e19 e33
  have e18 : ctx 18 [] = some [.fv (.bool true)] := h18
  refine ev_seq (ev_reg (by simp; rfl) ?_)
  by_cases hk : checkF v = 0
  · obtain ⟨hvo,cl,hcl⟩ := check_ok hk
    have q0 := got_fair hk (k := 0) (by omega)
    have q1 := got_fair hk (k := 1) (by omega)
    have q2 := got_fair hk (k := 2) (by omega)
    have qt := three_fair hvo
    have s0 := col_is hk (k := 0) (by omega) (f := fun x => x.b) fun x hx => ((shares_is hk).f x hx).1
    have s1 := col_is hk (k := 1) (by omega) (f := fun x => x.t) fun x hx => ((shares_is hk).f x hx).2.1
    have s2 := col_is hk (k := 2) (by omega) (f := fun x => x.c) fun x hx => ((shares_is hk).f x hx).2.2
    have o0 := fun i hi => due_once hk (k := 0) (by omega) (i := i) hi
    have o1 := fun i hi => due_once hk (k := 1) (by omega) (i := i) hi
    have o2 := fun i hi => due_once hk (k := 2) (by omega) (i := i) hi
    have hacl : allClaims v = cl := by unfold allClaims; rw [if_pos hk,hcl]; rfl
    obtain ⟨a1,a2,a3,a4,a5,a6⟩ := allClaims_facts hk
    rw [hacl] at a1 a2 a3 e19
    have hps : wts (partS v 1) = cl := by
      simp only [partS,hcl,Option.getD_some]
      exact claimsOf_wts a1
    rw [hps] at q1
    simp only [partE,partS,partL] at q0 q1 q2 s0 s1 s2 o0 o1 o2
    have hpr : partsR v = [(threeF v).getD 0 0,(threeF v).getD 1 0,(threeF v).getD 2 0] := by unfold partsR; rw [if_pos hk]; exact three_list v
    rw [hk] at e25 e23 e19
    rw [hpr] at e23
    simp only [List.getD_cons_zero,List.getD_cons_succ] at e23
    generalize (threeF v).getD 0 0 = b0 at e23 q0 qt
    generalize (threeF v).getD 1 0 = b1 at e23 q1 qt
    generalize (threeF v).getD 2 0 = b2 at e23 q2 qt
    have hpw : (sharesF v).Pairwise (fun x y => nlt x.n y.n) := (shares_is hk).s
    have hsum := shares_all hk
    have hlen := shares_len hk
    obtain ⟨d,hdd⟩ : ∃ d,sharesF v = d := ⟨_,rfl⟩
    rw [hdd] at e25 s0 s1 s2 o0 o1 o2 hpw hsum hlen
    have hcs := costs_sum hvo.g hvo.cl hvo.c
    have hn1 := hvo.div3.h1
    have hn0 := hvo.div3.h0
    have e34 : ∀ r c,ctx 34 [(r,.sl c 1 (ints v.costs))] = some [.fv (.int .i64 v.costs.sum)] := fun r c => by rw [h34 _ _ _ (by have := hvo.cl; omega),hcs.1]
    have hwn : IntKind.i64.wrap (v.gross - v.costs.sum) = netF v := by unfold netF at hn0 hn1 ⊢; exact wrap_id (by omega) (by omega)
    have e30t : ∀ r0 r1 r2 c1 c2,ctx 30 [(r0,.int .i64 (netF v)),(r1,.sl c1 1 (ints [b0,b1,b2])),(r2,.sl c2 1 (ints [v.boat,v.nets,v.crew]))] = some [.fv (.bool true)] := fun r0 r1 r2 c1 c2 => h30 _ _ _ r0 r1 r2 c1 c2 qt
    simp only [ints_cons,ints_nil] at e30t
    have hr3 : List.range 3 = [0,1,2] := rfl
    refine ev_seq (ev_reg (by simp [e25]; rfl) ?_)
    refine ev_seq (ev_reg (by simp [e23]; rfl) ?_)
    refine ev_seq (ev_reg (by simp [e19]; rfl) ?_)
    refine ev_seq (ev_seq (ev_reg (by simp [e33,hk]; rfl) ?_))
    refine ev_cond rfl (fun hb => ?_) (fun hb => ?_)
    · simp at hb
    refine ev_skip ?_
    refine ev_seq (ev_drw rfl (by kernel_rfl) (by kernel_rfl) (by simp [e34,hwn]; rfl) ?_)
    refine ev_seq (ev_seq (ev_reg (by simp [e30t,hr3,a1]; rfl) ?_))
    refine ev_cond rfl (fun hb => ?_) (fun hb => ?_)
    · simp at hb
    refine ev_skip ?_
    refine ev_seq (ev_reg (by simp; rfl) ?_)
    refine ev_mid (st8 v b0 b1 b2 d cl [(12,.fv false (.int .i64 (netF v))),(13,.fv false (.int .i64 d.length)),(109,.fv false (.bool false))]) ?_ ?_
    · refine ev_seq (ev_reg (by simp; rfl) ?_)
      refine ev_block ?_
      refine ev_loop (fun i : Nat => (st8 v b0 b1 b2 d cl [(12,.fv false (.int .i64 (sumD (d.take i)))),(13,.fv false (.int .i64 i))] : St)) (fun i => d.length - i) (fun i => i ≤ d.length) 0 (by simp [st8,sumD,a1]) (by simp) (by simp [R]; omega) (fun i hi => ?_)
      simp only [st8]
      refine ev_seq (ev_seq (ev_reg (by simp; rfl) ?_))
      refine ev_cond rfl (fun hb => ?_) (fun hb => ?_)
      · simp at hb
        have hs := sumD_take d i hb
        refine ev_skip ?_
        refine ev_seq (ev_block ?_)
        refine ev_seq (ev_drw rfl (by kernel_rfl) (by kernel_rfl) (by simp [hb,duF]; rfl) ?_)
        by_cases hi0 : 0 < i
        · obtain ⟨p,hp⟩ : ∃ p,i = p + 1 := ⟨i - 1,by omega⟩
          have hpl : p < d.length := by omega
          have hsl : sless d[p].n d[i].n = true := by
            rw [List.pairwise_iff_getElem] at hpw
            exact sless_of (hpw p i hpl hb (by omega))
          have hwp : IntKind.i64.wrap ((i : Int) - 1) = (p : Int) := by rw [wrap_id (by omega) (by omega)]; omega
          have hgt : (0 : Int) < (i : Int) := by omega
          refine ev_seq (ev_drw rfl (by kernel_rfl) (by kernel_rfl) (by simp [hb,hpl,hwp,hgt,hi0,hsl,duF]; rfl) ?_)
          refine ev_cond rfl (fun hb2 => ?_) (fun hb2 => ?_)
          · simp at hb2
          refine ev_skip ?_
          refine ev_reg (by simp; rfl) ?_
          refine ⟨i + 1,?_,by omega,by omega⟩
          simp [hs]
          exact wrap_nat (n := i + 1) (by omega)
        · obtain rfl : i = 0 := by omega
          refine ev_seq (ev_drw rfl (by kernel_rfl) (by kernel_rfl) (by simp [unsetS]; rfl) ?_)
          refine ev_cond rfl (fun hb2 => ?_) (fun hb2 => ?_)
          · simp at hb2
          refine ev_skip ?_
          refine ev_reg (by simp; rfl) ?_
          refine ⟨0 + 1,?_,by omega,by omega⟩
          rw [hs]
          simp
          exact wrap_nat (n := 1) (by omega)
      · have hb : i = d.length := by simp at hb; omega
        subst hb
        rw [List.take_length,hsum]
        refine ev_exit ?_
        exact ⟨rfl,by simp⟩
    have htd : List.take d.length (duL d) = duL d := List.take_of_length_le (by simp [duL])
    have l0 := stakes_len (hvo.st 0 (by omega))
    have l1 := stakes_len (hvo.st 1 (by omega))
    have l2 := stakes_len (hvo.st 2 (by omega))
    simp only [partL] at l0 l1 l2
    simp only [st8]
    refine ev_seq (ev_reg (by simp; rfl) ?_)
    refine ev_mid (st8x v b0 b1 b2 d cl (colF d (fun x => x.b) v.own v.own.length) [] [] [(17,.fv false (.int .i64 v.own.length)),(151,.fv false (.bool false))]) ?_ ?_
    · refine ev_seq (ev_reg (by simp; rfl) ?_)
      refine ev_block ?_
      refine ev_loop (fun i : Nat => (st8x v b0 b1 b2 d cl (colF d (fun x => x.b) v.own i) [] [] [(17,.fv false (.int .i64 i))] : St)) (fun i => v.own.length - i) (fun i => i ≤ v.own.length) 0 (by simp [st8x,colF]) (by simp) (by simp [R]; omega) (fun i hi => ?_)
      have hcl := colF_length d (fun x => x.b) v.own i hi
      simp only [st8x]
      refine ev_seq (ev_seq (ev_reg (by simp; rfl) ?_))
      refine ev_cond rfl (fun hb => ?_) (fun hb => ?_)
      · have hb : i < v.own.length := by simp at hb; omega
        have e35 : ∀ r r1 c,ctx 35 [(r,.sl c 4 (duL d)),(r1,.str v.own[i].1)] = some [.fv (duF (dueS d v.own[i].1).1),.fv (.bool true)] := fun r r1 c => by rw [h35 _ _ _ _ _ (by omega),o0 i hb]; rfl
        simp only [duF] at e35
        have hcs := colF_succ d (fun x => x.b) v.own i hb
        have hbd : (i + 1) * 8 ≤ 140737488355328 := by omega
        refine ev_skip ?_
        refine ev_seq (ev_block ?_)
        refine ev_seq (ev_reg (by simp [hb,e35,htd]; rfl) ?_)
        refine ev_seq (ev_seq (ev_reg (by simp; rfl) ?_))
        refine ev_cond rfl (fun hb2 => ?_) (fun hb2 => ?_)
        · simp at hb2
        refine ev_skip ?_
        refine ev_reg (by simp [hcl,hbd]; rfl) ?_
        refine ev_reg (by simp; rfl) ?_
        refine ⟨i + 1,?_,by omega,by omega⟩
        simp [hcs,hcl]
        exact wrap_nat (n := i + 1) (by omega)
      · have hb : i = v.own.length := by simp at hb; omega
        subst hb
        refine ev_exit ?_
        exact ⟨rfl,by simp⟩
    simp only [s0]
    obtain ⟨gA,hgA⟩ : ∃ gA,gotF v 0 = gA := ⟨_,rfl⟩
    rw [hgA] at q0 ⊢
    refine ev_mid (st8x v b0 b1 b2 d cl gA (colF d (fun x => x.t) v.lend v.lend.length) [] [(20,.fv false (.int .i64 v.lend.length)),(176,.fv false (.bool false))]) ?_ ?_
    · simp only [st8x]
      refine ev_seq (ev_reg (by simp; rfl) ?_)
      refine ev_block ?_
      refine ev_loop (fun i : Nat => (st8x v b0 b1 b2 d cl gA (colF d (fun x => x.t) v.lend i) [] [(20,.fv false (.int .i64 i))] : St)) (fun i => v.lend.length - i) (fun i => i ≤ v.lend.length) 0 (by simp [st8x,colF]) (by simp) (by simp [R]; omega) (fun i hi => ?_)
      have hcl := colF_length d (fun x => x.t) v.lend i hi
      simp only [st8x]
      refine ev_seq (ev_seq (ev_reg (by simp; rfl) ?_))
      refine ev_cond rfl (fun hb => ?_) (fun hb => ?_)
      · have hb : i < v.lend.length := by simp at hb; omega
        have e35 : ∀ r r1 c,ctx 35 [(r,.sl c 4 (duL d)),(r1,.str v.lend[i].1)] = some [.fv (duF (dueS d v.lend[i].1).1),.fv (.bool true)] := fun r r1 c => by rw [h35 _ _ _ _ _ (by omega),o1 i hb]; rfl
        simp only [duF] at e35
        have hcs := colF_succ d (fun x => x.t) v.lend i hb
        have hbd : (i + 1) * 8 ≤ 140737488355328 := by omega
        refine ev_skip ?_
        refine ev_seq (ev_block ?_)
        refine ev_seq (ev_reg (by simp [hb,e35,htd]; rfl) ?_)
        refine ev_seq (ev_seq (ev_reg (by simp; rfl) ?_))
        refine ev_cond rfl (fun hb2 => ?_) (fun hb2 => ?_)
        · simp at hb2
        refine ev_skip ?_
        refine ev_reg (by simp [hcl,hbd]; rfl) ?_
        refine ev_reg (by simp; rfl) ?_
        refine ⟨i + 1,?_,by omega,by omega⟩
        simp [hcs,hcl]
        exact wrap_nat (n := i + 1) (by omega)
      · have hb : i = v.lend.length := by simp at hb; omega
        subst hb
        refine ev_exit ?_
        exact ⟨rfl,by simp⟩
    simp only [s1]
    obtain ⟨gB,hgB⟩ : ∃ gB,gotF v 1 = gB := ⟨_,rfl⟩
    rw [hgB] at q1 ⊢
    refine ev_mid (st8x v b0 b1 b2 d cl gA gB (colF d (fun x => x.c) v.hand v.hand.length) [(23,.fv false (.int .i64 v.hand.length)),(201,.fv false (.bool false))]) ?_ ?_
    · simp only [st8x]
      refine ev_seq (ev_reg (by simp; rfl) ?_)
      refine ev_block ?_
      refine ev_loop (fun i : Nat => (st8x v b0 b1 b2 d cl gA gB (colF d (fun x => x.c) v.hand i) [(23,.fv false (.int .i64 i))] : St)) (fun i => v.hand.length - i) (fun i => i ≤ v.hand.length) 0 (by simp [st8x,colF]) (by simp) (by simp [R]; omega) (fun i hi => ?_)
      have hcl := colF_length d (fun x => x.c) v.hand i hi
      simp only [st8x]
      refine ev_seq (ev_seq (ev_reg (by simp; rfl) ?_))
      refine ev_cond rfl (fun hb => ?_) (fun hb => ?_)
      · have hb : i < v.hand.length := by simp at hb; omega
        have e35 : ∀ r r1 c,ctx 35 [(r,.sl c 4 (duL d)),(r1,.str v.hand[i].1)] = some [.fv (duF (dueS d v.hand[i].1).1),.fv (.bool true)] := fun r r1 c => by rw [h35 _ _ _ _ _ (by omega),o2 i hb]; rfl
        simp only [duF] at e35
        have hcs := colF_succ d (fun x => x.c) v.hand i hb
        have hbd : (i + 1) * 8 ≤ 140737488355328 := by omega
        refine ev_skip ?_
        refine ev_seq (ev_block ?_)
        refine ev_seq (ev_reg (by simp [hb,e35,htd]; rfl) ?_)
        refine ev_seq (ev_seq (ev_reg (by simp; rfl) ?_))
        refine ev_cond rfl (fun hb2 => ?_) (fun hb2 => ?_)
        · simp at hb2
        refine ev_skip ?_
        refine ev_reg (by simp [hcl,hbd]; rfl) ?_
        refine ev_reg (by simp; rfl) ?_
        refine ⟨i + 1,?_,by omega,by omega⟩
        simp [hcs,hcl]
        exact wrap_nat (n := i + 1) (by omega)
      · have hb : i = v.hand.length := by simp at hb; omega
        subst hb
        refine ev_exit ?_
        exact ⟨rfl,by simp⟩
    simp only [s2]
    obtain ⟨gC,hgC⟩ : ∃ gC,gotF v 2 = gC := ⟨_,rfl⟩
    rw [hgC] at q2 ⊢
    have a1' : cl.length = v.lend.length := a1
    have e31a : ∀ r c,ctx 31 [(r,.sl c 2 (stL v.own))] = some [.us 1 (ints (wts v.own))] := fun r c => h31 _ r c (by omega)
    have e31c : ∀ r c,ctx 31 [(r,.sl c 2 (stL v.hand))] = some [.us 1 (ints (wts v.hand))] := fun r c => h31 _ r c (by omega)
    have tA : List.take gA.length gA = gA := List.take_length
    have tB : List.take gB.length gB = gB := List.take_length
    have tC : List.take gC.length gC = gC := List.take_length
    have tcl : List.take cl.length cl = cl := List.take_length
    have two : List.take v.own.length (wts v.own) = wts v.own := List.take_of_length_le (by simp)
    have twh : List.take v.hand.length (wts v.hand) = wts v.hand := List.take_of_length_le (by simp)
    have e30a : v.boat ≠ 0 → ∀ r0 r1 r2 c1 c2,ctx 30 [(r0,.int .i64 b0),(r1,.sl c1 1 (ints gA)),(r2,.sl c2 1 (ints (wts v.own)))] = some [.fv (.bool true)] := fun h r0 r1 r2 c1 c2 => h30 _ _ _ r0 r1 r2 c1 c2 (q0 h)
    have e30b : v.nets ≠ 0 → ∀ r0 r1 r2 c1 c2,ctx 30 [(r0,.int .i64 b1),(r1,.sl c1 1 (ints gB)),(r2,.sl c2 1 (ints cl))] = some [.fv (.bool true)] := fun h r0 r1 r2 c1 c2 => h30 _ _ _ r0 r1 r2 c1 c2 (q1 h)
    have e30c : v.crew ≠ 0 → ∀ r0 r1 r2 c1 c2,ctx 30 [(r0,.int .i64 b2),(r1,.sl c1 1 (ints gC)),(r2,.sl c2 1 (ints (wts v.hand)))] = some [.fv (.bool true)] := fun h r0 r1 r2 c1 c2 => h30 _ _ _ r0 r1 r2 c1 c2 (q2 h)
    clear hsum hpw hlen s0 s1 s2 o0 o1 o2 e25 e23 e19 e33 e34 e30t qt hcs hn1 hn0
    have m0 : v.boat ≠ 0 → (v.boat == 0) = false := fun h => by simp [h]
    have m1 : v.nets ≠ 0 → (v.nets == 0) = false := fun h => by simp [h]
    have m2 : v.crew ≠ 0 → (v.crew == 0) = false := fun h => by simp [h]
    refine ev_seq (ev_reg (σ' := { env := [(2,.fv false (.bool true))],blk := [] }) (by
      simp only [st8x]
      by_cases k0 : v.boat = 0 <;> by_cases k1 : v.nets = 0 <;> by_cases k2 : v.crew = 0
      · simp [k0,k1,k2,e18,unsetS]
      · have f2 := e30c k2
        simp [k0,k1,k2,e18,unsetS,e31c,twh,f2,m2 k2]
      · have f1 := e30b k1
        simp [k0,k1,k2,e18,unsetS,f1,m1 k1]
      · have f1 := e30b k1
        have f2 := e30c k2
        simp [k0,k1,k2,e18,unsetS,e31c,twh,f1,f2,m1 k1,m2 k2]
      · have f0 := e30a k0
        simp [k0,k1,k2,e18,unsetS,e31a,two,f0,m0 k0]
      · have f0 := e30a k0
        have f2 := e30c k2
        simp [k0,k1,k2,e18,unsetS,e31a,two,e31c,twh,f0,f2,m0 k0,m2 k2]
      · have f0 := e30a k0
        have f1 := e30b k1
        simp [k0,k1,k2,e18,unsetS,e31a,two,f0,f1,m0 k0,m1 k1]
      · have f0 := e30a k0
        have f1 := e30b k1
        have f2 := e30c k2
        simp [k0,k1,k2,e18,unsetS,e31a,two,e31c,twh,f0,f1,f2,m0 k0,m1 k1,m2 k2]) ?_)
    refine ev_ret ?_
    simp
  · have ha : sharesF v = [] := by unfold sharesF; rw [if_neg hk]
    have hac : allClaims v = [] := by unfold allClaims; rw [if_neg hk]
    have hpr : partsR v = [0,0,0] := by unfold partsR; rw [if_neg hk]
    rw [ha] at e25
    rw [hac] at e19
    rw [hpr] at e23
    refine ev_seq (ev_reg (by simp [e25]; rfl) ?_)
    refine ev_seq (ev_reg (by simp [e23]; rfl) ?_)
    refine ev_seq (ev_reg (by simp [e19]; rfl) ?_)
    have hk2 : (checkF v != 0) = true := by simp [hk]
    refine ev_seq (ev_seq (ev_reg (by simp [hk2,hk,unsetS]; rfl) ?_))
    refine ev_cond rfl (fun hb => ?_) (fun hb => ?_)
    · refine ev_seq (ev_reg (by simp [hk2,hk,e18,unsetS]; rfl) ?_)
      refine ev_ret ?_
      simp
    · simp at hb
end Go.Proofs.YtejodhjhddnbeaaDoor.E
