/-
  The groups of balances (ShareGrouped): the groups that are told hold each balance that is not 0 just once, and none that is 0; the balances of each group are together 0, and of no smaller part of it, for any balances; a number chooses the part. Conditions: none.
-/
import Derived.Test.YtejodhjhddnbeaaDoorZG2
set_option linter.unusedVariables false
set_option linter.unusedSimpArgs false
namespace Go.Proofs.YtejodhjhddnbeaaDoor.E
open Go Go.RowKit
theorem v40 (ctx : Ctx) (hC : CtxOk (pg ctx)) (s k : Nat) (hs : s < 2^62) (hk : k < 62) (r0 r1 : Bool) : Valid Tryd.prog 40 [(r0,.int .i64 (s : Int)),(r1,.int .i64 (k : Int))] [.fv (.bool (s.testBit k))] := by
  refine valid_of_ev (G := pg ctx) (tok ctx) hC mixed Tryd.func40 T40 L40 (by simp [Tryd.ntmps40]) ⟨_,rfl,?_⟩
  simp only [Tryd.ntmps40,Tryd.results40,initSt,initEnv]
  obtain ⟨q,f1,r,f2,f3,_⟩ := bit_facts s k hs hk
  refine ev_seq (ev_reg (by simp; rfl) ?_)
  refine ev_seq (ev_reg (by simp [-fint,f1,f2,f3]; rfl) ?_)
  refine ev_ret ?_
  simp
def H40 (ctx : Ctx) : Prop := ∀ (s k : Nat) (r0 r1 : Bool),s < 2^62 → k < 62 → ctx 40 [(r0,.int .i64 (s : Int)),(r1,.int .i64 (k : Int))] = some [.fv (.bool (s.testBit k))]
theorem v39 (ctx : Ctx) (hC : CtxOk (pg ctx)) (h29 : H29 ctx) (l : List Int) (n : Int) (hn : 0 ≤ n ∧ n < 1000000) (hl : l.length < 1000000) (hup : l.Pairwise (· < ·)) (hbd : ∀ x ∈ l,0 ≤ x ∧ x < n) (r0 r1 c : Bool) : Valid Tryd.prog 39 [(r0,.sl c 1 (ints l)),(r1,.int .i64 n)] [.fv (.bool true)] := by
  refine valid_of_ev (G := pg ctx) (tok ctx) hC mixed Tryd.func39 T39 L39 (by simp [Tryd.ntmps39]) ⟨_,rfl,?_⟩
  simp only [Tryd.ntmps39,Tryd.results39,initSt,initEnv]
  have hw1 : IntKind.i64.wrap (n - 1) = n - 1 := wrap_id (by omega) (by omega)
  refine ev_seq (ev_reg (by simp; rfl) ?_)
  refine ev_seq (ev_seq (ev_reg (by simp; rfl) ?_))
  refine ev_block ?_
  refine ev_loop (fun i : Nat => ({ env := [(0,.fv r0 (.sl c 1 (ints l))),(1,.fv r1 (.int .i64 n)),(5,.fv false (.int .i64 i))],blk := [] } : St)) (fun i => l.length - i) (fun i => i ≤ l.length) 0 rfl (by simp) (by simp [R]; omega) (fun i hi => ?_)
  refine ev_seq (ev_seq (ev_reg (by simp; rfl) ?_))
  refine ev_cond rfl (fun hb => ?_) (fun hb => ?_)
  · have hb : i < l.length := by simp at hb; omega
    have hx := hbd _ (List.getElem_mem hb)
    have e29 : ∀ r r2,ctx 29 [(r,.int .i64 l[i]),(false,.int .i64 0),(r2,.int .i64 (n - 1))] = some [.fv (.bool true)] := fun r r2 => by
      rw [h29]; simp [hx.1]; omega
    have hwi : IntKind.i64.wrap ((i : Int) + 1) = ((i + 1 : Nat) : Int) := wrap_nat (n := i + 1) (by omega)
    refine ev_skip ?_
    refine ev_seq (ev_block ?_)
    by_cases hi0 : 0 < i
    · obtain ⟨p,hp⟩ : ∃ p,i = p + 1 := ⟨i - 1,by omega⟩
      have hpl : p < l.length := by omega
      have hlt : ¬ l[i] ≤ l[p] := by
        rw [List.pairwise_iff_getElem] at hup
        have := hup p i hpl hb (by omega)
        omega
      have hwp : IntKind.i64.wrap ((i : Int) - 1) = (p : Int) := by rw [wrap_id (by omega) (by omega)]; omega
      have hgt : (0 : Int) < (i : Int) := by omega
      refine ev_seq (ev_drw rfl (by kernel_rfl) (by kernel_rfl) (by simp [hb,hpl,hwp,hw1,hgt,hi0,e29,hlt]; rfl) ?_)
      refine ev_cond rfl (fun hb2 => ?_) (fun hb2 => ?_)
      · simp at hb2
      refine ev_skip ?_
      refine ev_reg (by simp; rfl) ?_
      refine ⟨i + 1,?_,by omega,by omega⟩
      simp
      exact hwi
    · obtain rfl : i = 0 := by omega
      refine ev_seq (ev_drw rfl (by kernel_rfl) (by kernel_rfl) (by simp [hb,hw1,e29,unsetS]; rfl) ?_)
      refine ev_cond rfl (fun hb2 => ?_) (fun hb2 => ?_)
      · simp at hb2
      refine ev_skip ?_
      refine ev_reg (by simp; rfl) ?_
      refine ⟨0 + 1,?_,by omega,by omega⟩
      simp
      exact wrap_nat (n := 1) (by omega)
  · simp at hb
    refine ev_exit ?_
    refine ev_seq (ev_reg (by simp; rfl) ?_)
    refine ev_ret ?_
    simp
def H39 (ctx : Ctx) : Prop := ∀ (l : List Int) (n : Int) (r0 r1 c : Bool),0 ≤ n ∧ n < 1000000 → l.length < 1000000 → l.Pairwise (· < ·) → (∀ x ∈ l,0 ≤ x ∧ x < n) → ctx 39 [(r0,.sl c 1 (ints l)),(r1,.int .i64 n)] = some [.fv (.bool true)]
def metG (M : List Int) (g : List Nat) : List Int := g.foldl (fun M q => M.set q (IntKind.i64.wrap (M.getD q 0 + 1))) M
theorem metG_take (M : List Int) (g : List Nat) (i : Nat) (h : i < g.length) : metG M (g.take (i + 1)) = (metG M (g.take i)).set g[i] (IntKind.i64.wrap ((metG M (g.take i)).getD g[i] 0 + 1)) := by
  unfold metG
  rw [List.take_add_one,List.getElem?_eq_getElem h,Option.toList_some,List.foldl_append]; rfl
@[simp] theorem metG_length (g : List Nat) : ∀ M : List Int,(metG M g).length = M.length := by
  unfold metG
  induction g with
  | nil => intro M; rfl
  | cons x g ih => intro M; rw [List.foldl_cons,ih]; simp
theorem metG_append (M : List Int) (g h : List Nat) : metG M (g ++ h) = metG (metG M g) h := by
  unfold metG; rw [List.foldl_append]
theorem metG_get : ∀ (g : List Nat) (M : List Int),g.Nodup → (∀ q ∈ g,q < M.length) → (∀ i,0 ≤ M.getD i 0 ∧ M.getD i 0 ≤ 1) → (∀ q ∈ g,M.getD q 0 = 0) → ∀ i,(metG M g).getD i 0 = M.getD i 0 + (if i ∈ g then 1 else 0)
  | [],M,_,_,_,_,i => by simp [metG]
  | x :: g,M,hd,hl,hM,hz,i => by
    rw [List.nodup_cons] at hd
    have hx := hl x List.mem_cons_self
    have hx0 := hz x List.mem_cons_self
    have hv : ∀ j,(M.set x (IntKind.i64.wrap (M.getD x 0 + 1))).getD j 0 = M.getD j 0 + (if j = x then 1 else 0) := fun j => by
      rw [hx0,wrap_id (by omega) (by omega),List.getD_eq_getElem?_getD,List.getElem?_set]
      by_cases e : x = j
      · subst e
        rw [if_pos rfl,if_pos hx,if_pos rfl,hx0]; rfl
      · rw [if_neg e,if_neg (fun e' => e e'.symm),← List.getD_eq_getElem?_getD]
        omega
    have ih := metG_get g (M.set x (IntKind.i64.wrap (M.getD x 0 + 1))) hd.2 (fun q hq => by simp; exact hl q (List.mem_cons_of_mem _ hq)) (fun j => by
      rw [hv]
      by_cases e : j = x
      · subst e; rw [hx0,if_pos rfl]; omega
      · rw [if_neg e]; have := hM j; omega) (fun q hq => by
      rw [hv,if_neg (fun e => hd.1 (by subst e; exact hq)),hz q (List.mem_cons_of_mem _ hq)]; rfl) i
    have e0 : metG M (x :: g) = metG (M.set x (IntKind.i64.wrap (M.getD x 0 + 1))) g := rfl
    rw [e0,ih,hv]
    by_cases e1 : i = x
    · subst e1
      simp [hd.1]
    · simp [e1]
theorem metF_take (M : List Int) (gs : List (List Nat)) (i : Nat) (h : i < gs.length) : metG M (gs.take (i + 1)).flatten = metG (metG M (gs.take i).flatten) gs[i] := by
  rw [List.take_add_one,List.getElem?_eq_getElem h,Option.toList_some,List.flatten_append,metG_append]
  simp
def selK (g : List Nat) (b k : Nat) : List Nat := ((List.range k).filter fun j => b.testBit j).map fun j => g.getD j 0
theorem selK_succ (g : List Nat) (b k : Nat) (h : k < g.length) : selK g b (k + 1) = if b.testBit k = true then selK g b k ++ [g[k]] else selK g b k := by
  unfold selK
  rw [List.range_succ,List.filter_append,List.map_append]
  have : g.getD k 0 = g[k] := by simp [List.getD_eq_getElem?_getD,h]
  cases hb : b.testBit k
  · simp [hb]
  · simp [hb,h]
theorem selK_sub (g : List Nat) (b : Nat) : (selK g b g.length).Sublist g := by
  have e : (List.range g.length).map (fun j => g.getD j 0) = g := List.ext_getElem (by simp) fun i h1 h2 => by simp [List.getD_eq_getElem?_getD,h2]
  conv => rhs; rw [← e]
  exact List.filter_sublist.map _
theorem selK_len (g : List Nat) (b k : Nat) : (selK g b k).length ≤ k := by
  unfold selK
  rw [List.length_map]
  exact Nat.le_trans (List.length_filter_le _ _) (by simp)
theorem sum_bd {v : List Int} (h : ∀ x ∈ v,-1000000 ≤ x ∧ x ≤ 1000000) (hl : v.length ≤ 100) : -((v.length : Int) * 1000000) ≤ v.sum ∧ v.sum ≤ (v.length : Int) * 1000000 :=
  (sumI_sgn (B := 1000000) (by omega) v 0 h (by omega) (by omega)).2
def lv (l : List Int) (q : Nat) : Int := l.getD q 0
def st11 (l : List Int) (s : Int) (r0 c0 r1 : Bool) (g : List (List Nat)) (M : List Int) (e : List (Nat × V)) : St := { env := [(0,.fv r0 (.sl c0 1 (ints l))),(1,.fv r1 (.int .i64 s)),(5,.own 5 0 g.length),(7,.own 7 0 M.length)] ++ e,blk := [(5,.arr 1 (grL g)),(7,.arr 1 (ints M))] }
set_option maxHeartbeats 3200000 in
theorem v11 (ctx : Ctx) (hC : CtxOk (pg ctx)) (h18 : H18 ctx) (h32 : H32 ctx) (h37 : H37 ctx) (h38 : H38 ctx) (h39 : H39 ctx) (h40 : H40 ctx) (l : List Int) (s : Int) (hl : l.length < 2^44) (r0 r1 c0 : Bool) : Valid Tryd.prog 11 [(r0,.sl c0 1 (ints l)),(r1,.int .i64 s)] [.fv (.bool true)] := by
  refine valid_of_ev (G := pg ctx) (tok ctx) hC mixed Tryd.func11 T11 L11 (by simp [Tryd.ntmps11]) ⟨_,rfl,?_⟩
  simp only [Tryd.ntmps11,Tryd.results11,initSt,initEnv]
  have e18 : ctx 18 [] = some [.fv (.bool true)] := h18
  have e37 : ∀ r c,ctx 37 [(r,.sl c 1 (ints l))] = some [.us 1 (grL (groupsF l).1),.fv (.int .i64 (groupsF l).2)] := fun r c => h37 l r c hl
  have e38 : ∀ r c,ctx 38 [(r,.sl c 1 (ints l))] = some [.fv (.bool (balances l))] := fun r c => h38 l r c hl
  refine ev_seq (ev_reg (by simp; rfl) ?_)
  cases hb : balances l with
  | true =>
    obtain ⟨b1,b2,b3⟩ := bal_facts hb
    have hgo := group_ok hb
    obtain ⟨o1,o2⟩ := groups_once hb
    have hgl := groupsF_len hb
    have g2 : (groupsF l).2 = 0 := by unfold groupsF; rw [if_pos hb]
    rw [g2] at e37
    rw [hb] at e38
    generalize hg : (groupsF l).1 = g at *
    have hbd : (8 * (l.length : Int)) ≤ 281474976710656 := by omega
    have hbd2 : (l.length : Int) ≤ 9223372036854775807 := by omega
    refine ev_seq (ev_reg (by simp [e37]; rfl) ?_)
    refine ev_seq (ev_seq (ev_reg (by simp [e38]; rfl) ?_))
    refine ev_cond rfl (fun hb2 => ?_) (fun hb2 => ?_)
    · simp at hb2
    refine ev_skip ?_
    refine ev_seq (ev_reg (by simp [hbd,hbd2]; rfl) ?_)
    refine ev_mid (st11 l s r0 c0 r1 g (metG (List.replicate l.length 0) g.flatten) [(8,.fv false (.int .i64 g.length)),(45,.fv false (.bool false))]) ?_ ?_
    · refine ev_seq (ev_reg (by simp; rfl) ?_)
      refine ev_block ?_
      refine ev_loop (fun i : Nat => (st11 l s r0 c0 r1 g (metG (List.replicate l.length 0) (g.take i).flatten) [(8,.fv false (.int .i64 i))] : St)) (fun i => g.length - i) (fun i => i ≤ g.length) 0 (by simp [st11,metG,ints]) (by simp) (by simp [R]; omega) (fun i hi => ?_)
      simp only [st11]
      refine ev_seq (ev_seq (ev_reg (by simp; rfl) ?_))
      refine ev_cond rfl (fun hb3 => ?_) (fun hb3 => ?_)
      · have hb3 : i < g.length := by simp at hb3; omega
        have hok := hgo _ (List.getElem_mem hb3)
        have hmt := metF_take (List.replicate l.length 0) g i hb3
        have hML : (metG (List.replicate l.length 0) (g.take i).flatten).length = l.length := by simp
        have hMb : ∀ q,0 ≤ (metG (List.replicate l.length 0) (g.take i).flatten).getD q 0 ∧ (metG (List.replicate l.length 0) (g.take i).flatten).getD q 0 ≤ 1 := fun q => by
          have hsub : (g.take i).flatten.Sublist g.flatten := by
            conv => rhs; rw [← List.take_append_drop i g,List.flatten_append]
            exact List.sublist_append_left _ _
          have := metG_get (g.take i).flatten (List.replicate l.length 0) (hsub.nodup o1) (fun q hq => by simp; exact ((o2 q).1 (hsub.subset hq)).1) (fun j => by simp [List.getD_eq_getElem?_getD,List.getElem?_replicate]; split <;> simp) (fun q _ => by simp [List.getD_eq_getElem?_getD,List.getElem?_replicate]; split <;> rfl) q
          have h0 : (List.replicate l.length (0 : Int)).getD q 0 = 0 := by simp [List.getD_eq_getElem?_getD,List.getElem?_replicate]; split <;> rfl
          rw [this,h0]
          split <;> omega
        generalize metG (List.replicate l.length 0) (g.take i).flatten = M at hmt hML hMb
        have hgi1 : (grL g)[i]? = some (.sl false 1 (ints (natL g[i]))) := by simp [grL,hb3]
        have hgi2 : (grL g)[i]'(by simpa using hb3) = .sl false 1 (ints (natL g[i])) := by simp [grL]
        generalize hm : g[i] = m at hok hmt hgi1 hgi2
        have m2 := hok.two
        have m10 := hok.ten
        have e39 : ∀ r r2 c,ctx 39 [(r,.sl c 1 (ints (natL m))),(r2,.int .i64 l.length)] = some [.fv (.bool true)] := fun r r2 c => h39 (natL m) _ r r2 c ⟨by omega,by omega⟩ (by simp; omega) (by
          unfold natL
          rw [List.pairwise_map]
          exact hok.up.imp fun h => by simp; omega) (fun x hx => by
          unfold natL at hx
          obtain ⟨q,hq,rfl⟩ := List.mem_map.1 hx
          have := (hok.nz q hq).1
          simp; omega)
        have hn2 : ¬ (m.length : Int) < 2 := by omega
        have hn2' : ¬ m.length < 2 := by omega
        refine ev_skip ?_
        refine ev_seq (ev_block ?_)
        refine ev_seq (ev_reg (by simp; rfl) ?_)
        refine ev_seq (ev_seq (ev_reg (by simp [hb3,hgi1,hgi2,e39,hn2,hn2']; rfl) ?_))
        refine ev_cond rfl (fun hb4 => ?_) (fun hb4 => ?_)
        · simp at hb4
        refine ev_skip ?_
        have hp2 : 0 < 2 ^ m.length := Nat.pow_pos (by omega)
        have hp10 : 2 ^ m.length ≤ 2 ^ 10 := Nat.pow_le_pow_right (by omega) m10
        have hr := modI_emod (n := s) (d := ((2 ^ m.length : Nat) : Int)) (by omega) (by omega)
        have hr1 := Int.emod_nonneg s (show ((2 ^ m.length : Nat) : Int) ≠ 0 by omega)
        have hr2 := Int.emod_lt_of_pos s (show (0 : Int) < ((2 ^ m.length : Nat) : Int) by omega)
        obtain ⟨b,hbb⟩ : ∃ b : Nat,modI s ((2 ^ m.length : Nat) : Int) = b := ⟨(modI s ((2 ^ m.length : Nat) : Int)).toNat,by omega⟩
        have hb62 : b < 2 ^ 62 := by omega
        have e32 : ∀ r r2,ctx 32 [(r,.int .i64 s),(r2,.int .i64 ((2 ^ m.length : Nat) : Int))] = some [.fv (.int .i64 (b : Int))] := fun r r2 => by rw [h32 _ _ _ _ (by omega),hbb]
        have e40 : ∀ (k : Nat) r r2,k < 62 → ctx 40 [(r,.int .i64 (b : Int)),(r2,.int .i64 (k : Int))] = some [.fv (.bool (b.testBit k))] := fun k r r2 hk => h40 b k r r2 hb62 hk
        have fsh := shl_fact m.length (by omega)
        generalize ((2 ^ m.length : Nat) : Int) = p2 at e32 fsh
        refine ev_mid ({ env := [(0,.fv r0 (.sl c0 1 (ints l))),(1,.fv r1 (.int .i64 s)),(5,.own 5 0 g.length),(7,.own 7 0 l.length),(8,.fv false (.int .i64 i)),(9,.fv false (.int .i64 0)),(10,.fv false (.int .i64 ((selK m b m.length).map (lv l)).sum)),(11,.fv false (.int .i64 ((selK m b m.length).length : Nat))),(12,.fv false (.int .i64 m.length)),(70,.fv false (.bool false))],blk := [(5,.arr 1 (grL g)),(7,.arr 1 (ints (metG M m)))] }) ?_ ?_
        · refine ev_seq (ev_reg (by simp; rfl) ?_)
          refine ev_block ?_
          refine ev_loop (fun k : Nat => ({ env := [(0,.fv r0 (.sl c0 1 (ints l))),(1,.fv r1 (.int .i64 s)),(5,.own 5 0 g.length),(7,.own 7 0 l.length),(8,.fv false (.int .i64 i)),(9,.fv false (.int .i64 (((m.map (lv l)).take k).sum))),(10,.fv false (.int .i64 ((selK m b k).map (lv l)).sum)),(11,.fv false (.int .i64 ((selK m b k).length : Nat))),(12,.fv false (.int .i64 k))],blk := [(5,.arr 1 (grL g)),(7,.arr 1 (ints (metG M (m.take k))))] } : St)) (fun k => m.length - k) (fun k => k ≤ m.length) 0 (by simp [selK,metG,hML]) (by simp) (by simp [R]; omega) (fun k hk => ?_)
          refine ev_seq (ev_seq (ev_reg (by simp [hb3,hgi1,hgi2]; rfl) ?_))
          refine ev_cond rfl (fun hb5 => ?_) (fun hb5 => ?_)
          · have hb5 : k < m.length := by simp at hb5; omega
            obtain ⟨q1,q2⟩ := hok.nz _ (List.getElem_mem hb5)
            have hn1 : (natL m)[k]? = some ((m[k] : Nat) : Int) := by simp [natL,hb5]
            have hn2 : (natL m)[k]'(by simpa using hb5) = ((m[k] : Nat) : Int) := nat_get m k hb5
            have hlq : lv l m[k] = l[m[k]] := by unfold lv; simp [List.getD_eq_getElem?_getD,q1]
            have hKl : (metG M (m.take k)).length = l.length := by simp [hML]
            have q1' : m[k] < (metG M (m.take k)).length := by omega
            have hKq : (metG M (m.take k)).getD m[k] 0 = (metG M (m.take k))[m[k]] := by rw [List.getD_eq_getElem?_getD,List.getElem?_eq_getElem q1',Option.getD_some]
            have hmk := metG_take M m k hb5
            rw [hKq] at hmk
            have hsk := selK_succ m b k hb5
            have hst : ((m.map (lv l)).take (k + 1)).sum = ((m.map (lv l)).take k).sum + l[m[k]] := by
              rw [List.take_add_one,List.getElem?_eq_getElem (show k < (m.map (lv l)).length by simpa using hb5),Option.toList_some,List.sum_append,List.sum_singleton,List.getElem_map,hlq]
            have hball : ∀ (c : List Nat),∀ x ∈ c.map (lv l),-1000000 ≤ x ∧ x ≤ 1000000 := fun c x hx => by
              obtain ⟨q,_,rfl⟩ := List.mem_map.1 hx
              exact bal_at b2 q
            have hse := sum_bd (v := (m.map (lv l)).take k) (fun x hx => hball m x (List.mem_of_mem_take hx)) (by simp; omega)
            have hsl := selK_len m b k
            have hpe := sum_bd (hball (selK m b k)) (by simp; omega)
            simp only [List.length_map,List.length_take] at hse hpe
            have hlv : -1000000 ≤ lv l m[k] ∧ lv l m[k] ≤ 1000000 := bal_at b2 m[k]
            rw [hlq] at hlv
            have ws : IntKind.i64.wrap (((m.map (lv l)).take k).sum + l[m[k]]) = ((m.map (lv l)).take k).sum + l[m[k]] := wrap_id (by omega) (by omega)
            have wp : IntKind.i64.wrap (((selK m b k).map (lv l)).sum + l[m[k]]) = ((selK m b k).map (lv l)).sum + l[m[k]] := wrap_id (by omega) (by omega)
            have wm : IntKind.i64.wrap (((selK m b k).length : Int) + 1) = (((selK m b k).length + 1 : Nat) : Int) := wrap_nat (n := (selK m b k).length + 1) (by omega)
            have wk : IntKind.i64.wrap ((k : Int) + 1) = ((k + 1 : Nat) : Int) := wrap_nat (n := k + 1) (by omega)
            have e40k := fun r r2 => e40 k r r2 (by omega)
            generalize ((m.map (lv l)).take k).sum = S0 at hst ws
            generalize hK : metG M (m.take k) = K at hKl q1' hmk
            refine ev_skip ?_
            refine ev_seq (ev_block ?_)
            refine ev_seq (ev_reg (by simp [hb3,hgi1,hgi2,hb5,hn1,hn2,q1,q1']; rfl) ?_)
            refine ev_seq (ev_reg (by simp [hb3,hgi1,hgi2,hb5,hn1,hn2,q1,ws]; rfl) ?_)
            refine ev_seq (ev_reg (by simp [hb3,hgi1,hgi2,fsh,e32,e40k]; rfl) ?_)
            refine ev_cond rfl (fun hb6 => ?_) (fun hb6 => ?_)
            · rw [if_pos hb6] at hsk
              refine ev_seq (ev_reg (by simp [hb3,hgi1,hgi2,hb5,hn1,hn2,q1,wp]; rfl) ?_)
              refine ev_reg (by simp; rfl) ?_
              refine ev_reg (by simp; rfl) ?_
              refine ⟨k + 1,?_,by omega,by omega⟩
              rw [hst,hsk,hmk]
              simp [List.sum_append,hlq,wm,wk]
              first | exact ⟨wm,wk⟩ | exact ⟨rfl,wm,wk⟩ | skip
            · rw [if_neg (by simp [hb6])] at hsk
              refine ev_skip ?_
              refine ev_reg (by simp; rfl) ?_
              refine ⟨k + 1,?_,by omega,by omega⟩
              rw [hst,hsk,hmk]
              simp
              exact wk
          · have hb5 : k = m.length := by simp at hb5; omega
            subst hb5
            have hs0 : (m.map (lv l)).sum = 0 := hok.sum
            have hs1 : ((m.map (lv l)).take m.length).sum = 0 := by rw [List.take_of_length_le (by simp)]; exact hs0
            rw [hs1,List.take_length]
            refine ev_exit ?_
            exact ⟨rfl,by simp⟩
        · have hno : ¬ (((selK m b m.length).map (lv l)).sum = 0 ∧ 0 < (selK m b m.length).length ∧ (selK m b m.length).length < m.length) := fun ⟨h1,h2,h3⟩ =>
            hok.part _ (selK_sub m b) (fun e => by rw [e] at h2; simp at h2) h3 h1
          have hML2 : (metG M m).length = l.length := by simp [hML]
          generalize ((selK m b m.length).map (lv l)).sum = pt at hno
          generalize (selK m b m.length).length = mn at hno
          refine ev_seq (ev_reg (σ' := { env := [(0,.fv r0 (.sl c0 1 (ints l))),(1,.fv r1 (.int .i64 s)),(5,.own 5 0 g.length),(7,.own 7 0 l.length),(8,.fv false (.int .i64 i)),(139,.fv false (.bool false))],blk := [(5,.arr 1 (grL g)),(7,.arr 1 (ints (metG M m)))] }) (by
            by_cases k1 : pt = 0
            · by_cases k2 : 0 < mn
              · have k3 : ¬ mn < m.length := fun h => hno ⟨k1,k2,h⟩
                simp [k1,k2,k3,hb3,hgi1,hgi2]
              · simp [k1,k2,unsetS]
            · have k1b : (pt == 0) = false := by simp [k1]
              simp [k1,k1b,unsetS]) ?_)
          refine ev_cond rfl (fun hb7 => ?_) (fun hb7 => ?_)
          · simp at hb7
          refine ev_skip ?_
          refine ev_reg (by simp; rfl) ?_
          refine ⟨i + 1,?_,by omega,by omega⟩
          rw [hmt]
          simp [hML]
          exact wrap_nat (n := i + 1) (by omega)
      · have hb3 : i = g.length := by simp at hb3; omega
        subst hb3
        rw [List.take_length]
        refine ev_exit ?_
        exact ⟨rfl,by simp⟩
    · have hmet : ∀ i,(metG (List.replicate l.length 0) g.flatten).getD i 0 = if i < l.length ∧ l.getD i 0 ≠ 0 then 1 else 0 := fun i => by
        have h0 : ∀ q,(List.replicate l.length (0 : Int)).getD q 0 = 0 := fun q => by simp [List.getD_eq_getElem?_getD,List.getElem?_replicate]; split <;> rfl
        rw [metG_get g.flatten (List.replicate l.length 0) o1 (fun q hq => by simp; exact ((o2 q).1 hq).1) (fun j => by rw [h0]; omega) (fun q _ => h0 q) i,h0]
        simp only [o2]
        omega
      have hML : (metG (List.replicate l.length 0) g.flatten).length = l.length := by simp
      generalize metG (List.replicate l.length 0) g.flatten = M at hmet hML
      simp only [st11]
      refine ev_seq (ev_seq (ev_reg (by simp; rfl) ?_))
      refine ev_block ?_
      refine ev_loop (fun i : Nat => ({ env := [(0,.fv r0 (.sl c0 1 (ints l))),(7,.own 7 0 M.length),(13,.fv false (.int .i64 i))],blk := [(7,.arr 1 (ints M))] } : St)) (fun i => l.length - i) (fun i => i ≤ l.length) 0 rfl (by simp) (by simp [R]; omega) (fun i hi => ?_)
      refine ev_seq (ev_seq (ev_reg (by simp; rfl) ?_))
      refine ev_cond rfl (fun hb3 => ?_) (fun hb3 => ?_)
      · have hb3 : i < l.length := by simp at hb3; omega
        have hb3' : i < M.length := by omega
        have hv := hmet i
        have e1 : M.getD i 0 = M[i] := by simp [List.getD_eq_getElem?_getD,hb3']
        have e2 : l.getD i 0 = l[i] := by simp [List.getD_eq_getElem?_getD,hb3]
        rw [e1,e2] at hv
        refine ev_skip ?_
        refine ev_seq (ev_block ?_)
        by_cases hz : l[i] = 0
        · rw [if_neg (fun h => h.2 hz)] at hv
          refine ev_seq (ev_drw rfl (by kernel_rfl) (by kernel_rfl) (by simp [hb3,hb3',hv,hz]; rfl) ?_)
          refine ev_cond rfl (fun hb4 => ?_) (fun hb4 => ?_)
          · simp at hb4
          refine ev_skip ?_
          refine ev_reg (by simp; rfl) ?_
          refine ⟨i + 1,?_,by omega,by omega⟩
          simp
          exact wrap_nat (n := i + 1) (by omega)
        · rw [if_pos ⟨hb3,hz⟩] at hv
          have hz2 : (l[i] == 0) = false := by simp [hz]
          refine ev_seq (ev_drw rfl (by kernel_rfl) (by kernel_rfl) (by simp [hb3,hb3',hv,hz,hz2]; rfl) ?_)
          refine ev_cond rfl (fun hb4 => ?_) (fun hb4 => ?_)
          · exact absurd (by simpa using hb4) hz
          refine ev_skip ?_
          refine ev_reg (by simp; rfl) ?_
          refine ⟨i + 1,?_,by omega,by omega⟩
          simp
          exact wrap_nat (n := i + 1) (by omega)
      · simp at hb3
        refine ev_exit ?_
        refine ev_seq (ev_reg (by simp [e18]; rfl) ?_)
        refine ev_ret ?_
        simp
  | false =>
    have q2 : groupsF l = ([],33) := by unfold groupsF; rw [if_neg (by simp [hb])]
    rw [q2] at e37
    rw [hb] at e38
    refine ev_seq (ev_reg (by simp [e37]; rfl) ?_)
    refine ev_seq (ev_seq (ev_reg (by simp [unsetS]; rfl) ?_))
    refine ev_cond rfl (fun hb2 => ?_) (fun hb2 => ?_)
    · refine ev_seq (ev_reg (by simp [e38,e18,grL]; rfl) ?_)
      refine ev_ret ?_
      simp
    · simp at hb2
end Go.Proofs.YtejodhjhddnbeaaDoor.E
