/-
  What is said of single sums, voyages and balances (ShareKnown), a closed statement. Conditions: none.
-/
import Derived.Test.YtejodhjhddnbeaaDoorZ25
import Derived.Test.YtejodhjhddnbeaaDoorZN1
set_option linter.unusedVariables false
set_option linter.unusedSimpArgs false
namespace Go.Proofs.YtejodhjhddnbeaaDoor.E
open Go Go.RowKit
def GeF (x y:FV):Prop:=∀ (Fz:Nat->Prop) (w:World) (v:Value),RepF Fz w x v->RepF Fz w y v
theorem ge_refl (x:FV):GeF x x:=fun _ _ _ h=>h
theorem ge_nil (sz:Nat):GeF (.sl true 0 []) (.sl false sz []):=fun Fz w v h=>by
 cases h with
 | sl0 _ _ a cap hc=>exact .sl0 false sz a cap (by simp)
 | sl _ _ xs b o len cap us hlen hcap hclip hb hsz hc hr =>
  simp at hlen
  subst hlen
  exact .sl0 false sz _ cap (by simp)
theorem ge_agg {xs ys:List FV} (hl:xs.length=ys.length) (h:∀ (j:Nat) (x y:FV),xs[j]? = some x->ys[j]? = some y->GeF x y):GeF (.agg xs) (.agg ys):=fun Fz w v hv=>by
 cases hv with
 | agg cells vs hs hr =>
  refine .agg ys vs (by omega) fun j y hy=>?_
  have hj:j < ys.length:=by
   refine Classical.byContradiction fun hx=>?_
   rw [List.getElem?_eq_none (by omega)] at hy
   cases hy
  have hx:xs[j]? = some (xs[j]'(by omega)):=List.getElem?_eq_getElem (by omega)
  exact h j _ _ hx hy _ _ _ (hr j _ hx)
theorem valid_ge {P:Program} {k:FuncId} {ro:Bool} {x y:FV} {res:List TV} (hv:Valid P k [(ro,y)] res) (h:GeF x y):Valid P k [(ro,x)] res:=fun w Fz Fy vs h1 h2 h3 h4 h5 =>
 hv w Fz Fy vs h1 h2 (by simpa using h3) (fun j p hp=>by
  match j with
  | 0 =>
   simp only [List.getElem?_cons_zero,Option.some.injEq] at hp
   subst hp
   obtain ⟨v,e,r⟩:=h4 0 (ro,x) rfl
   exact ⟨v,e,h _ _ _ r⟩
  | j+1=>simp at hp) h5
def LW (sz:Nat) (xs:List FV) (x:FV):Prop:=x = .sl false sz xs\/(xs=[]/\x = .sl true 0 [])
theorem LW.ge {sz:Nat} {xs:List FV} {x:FV} (h:LW sz xs x):GeF x (.sl false sz xs):=by
 rcases h with rfl | ⟨rfl,rfl⟩
 ·exact ge_refl _
 ·exact ge_nil sz
theorem LW.one {sz:Nat} {xs ys:List FV} {x:FV} (h:LW sz xs x) (h':LW sz ys x):xs=ys:=by
 rcases h with h | ⟨h1,h2⟩
 ·rcases h' with h' | ⟨h3,h4⟩
  ·rw [h] at h'; cases h'; rfl
  ·rw [h] at h4; cases h4
 ·rcases h' with h' | ⟨h3,h4⟩
  ·rw [h2] at h'; cases h'
  ·rw [h1,h3]
def voyX (v:Voy) (c o l h n:FV):FV:=.agg [.int .i64 v.gross,c,.int .i64 v.boat,.int .i64 v.nets,.int .i64 v.crew,o,l,h,n]
structure VoyW (v:Voy) (c o l h n:FV):Prop where
 c:LW 1 (ints v.costs) c
 o:LW 2 (stL v.own) o
 l:LW 2 (stL v.lend) l
 h:LW 2 (stL v.hand) h
 n:LW 4 (loL v.loans) n
theorem VoyW.self (v:Voy):VoyW v (.sl false 1 (ints v.costs)) (.sl false 2 (stL v.own)) (.sl false 2 (stL v.lend)) (.sl false 2 (stL v.hand)) (.sl false 4 (loL v.loans)):=⟨.inl rfl,.inl rfl,.inl rfl,.inl rfl,.inl rfl⟩
def H25x (ctx:Ctx):Prop:=∀ (v:Voy) (c o l h n:FV),Small v->VoyW v c o l h n->ctx 25 [(false,voyX v c o l h n)]=some [.us 4 (duL (sharesF v)),.fv (.int .i64 (checkF v))]
theorem H25x.at {ctx:Ctx} (h:H25x ctx) (v:Voy) (hv:Small v):ctx 25 [(false,voyF v)]=some [.us 4 (duL (sharesF v)),.fv (.int .i64 (checkF v))]:=h v _ _ _ _ _ hv (VoyW.self v)
theorem ge_empty (c:Bool) (s sz:Nat):GeF (.sl c s []) (.sl false sz []):=fun Fz w v h=>by
 cases h with
 | sl0 _ _ a cap hc=>exact .sl0 false sz a cap (by simp)
 | sl _ _ xs b o len cap us hlen hcap hclip hb hsz hc hr =>
  simp at hlen
  subst hlen
  exact .sl0 false sz _ cap (by simp)
theorem ge_clip (c:Bool) (sz:Nat) (xs:List FV):GeF (.sl c sz xs) (.sl false sz xs):=fun Fz w v h=>by
 cases h with
 | sl0 _ _ a cap hc=>exact .sl0 false sz a cap (by simp)
 | sl _ _ xs b o len cap us hlen hcap hclip hb hsz hc hr=>exact .sl false sz xs b o len cap us hlen hcap (by simp) hb hsz hc hr
theorem valid_ges {P:Program} {k:FuncId} {xs ys:List (Bool×FV)} {res:List TV} (hv:Valid P k ys res) (hl:xs.length=ys.length) (h:∀ (j:Nat) (p q:Bool×FV),xs[j]? = some p->ys[j]? = some q->p.1=q.1/\GeF p.2 q.2):Valid P k xs res:=fun w Fz Fy vs h1 h2 h3 h4 h5 =>
 hv w Fz Fy vs h1 h2 (by rw [h3,hl]) (fun j q hq=>by
  have hj:j < xs.length:=by rw [hl]; exact (List.getElem?_eq_some_iff.1 hq).1
  obtain ⟨e,g⟩:=h j xs[j] q (List.getElem?_eq_getElem hj) hq
  obtain ⟨v,e2,r⟩:=h4 j xs[j] (List.getElem?_eq_getElem hj)
  refine ⟨v,e2,?_⟩
  rw [<-e]
  exact g _ _ _ r) h5
def flatT:TV->Bool
 | .fv x=>flat x
 | .us _ xs=>xs.all flat
theorem cell_flat {x:FV} (h:flat x=true) {j:Nat} {y:FV} (hy:(cellsOf x)[j]? = some y):flat1 y=true:=by
 have one:∀ z:FV,cellsOf z=[z]->flat z=flat1 z->flat z=true->(cellsOf z)[j]? = some y->flat1 y=true:=fun z e1 e2 e3 e4=>by
  rw [e1] at e4
  have:=List.mem_of_getElem? e4
  rw [List.mem_singleton] at this
  rw [this,<-e2]; exact e3
 cases x with
 | agg cs =>
  simp only [flat,List.all_eq_true] at h
  exact h y (List.mem_of_getElem? hy)
 | _=>exact one _ rfl rfl h hy
theorem comp_flat {Z Z':Nat->Prop} {w:World} {m:Option (Nat×Nat)} {r:TV} {u:Value} (h:CompOK Z w m r u) (hf:flatT r=true):CompOK Z' w m r u:=by
 cases h with
 | fv x _ h=>exact .fv x _ (h.of_flat hf)
 | us sz xs v hv hb =>
  refine .us sz xs _ ?_ ?_
  ·cases hv with
   | ownx _ _ _ _ h=>exact .ownx _ _ _ _ h
   | own _ _ _ ad cap sz n hs hn hc hm=>exact .own _ _ _ ad cap sz n hs hn hc hm
  ·have hf:∀ x∈xs,flat x=true:=by simpa [flatT] using hf
   cases hb with
   | nil sz=>exact .nil sz
   | arr sz xs b base c e hm hh hc hsz hr=>exact .arr sz xs b base c e hm hh hc hsz fun i x j y h1 h2=>(hr i x j y h1 h2).of_flat1 (cell_flat (hf x (List.mem_of_getElem? h1)) h2)
theorem valid_ro {P:Program} {k:FuncId} {xs ys:List (Bool×FV)} {res:List TV} (hv:Valid P k ys res) (hl:xs.length=ys.length) (h:∀ (j:Nat) (p q:Bool×FV),xs[j]? = some p->ys[j]? = some q->q.1=false/\GeF p.2 q.2) (hr:res.all flatT=true):Valid P k xs res:=fun w Fz Fy vs h1 h2 h3 h4 h5 =>
 (hv w Fy Fy vs (fun _ x=>x) h2 (by rw [h3,hl]) (fun j q hq=>by
  have hj:j < xs.length:=by rw [hl]; exact (List.getElem?_eq_some_iff.1 hq).1
  obtain ⟨e,g⟩:=h j xs[j] q (List.getElem?_eq_getElem hj) hq
  obtain ⟨v,e2,r⟩:=h4 j xs[j] (List.getElem?_eq_getElem hj)
  refine ⟨v,e2,?_⟩
  have r2:RepF Fy w xs[j].2 v:=by
   cases hb:xs[j].1 with
   | true=>rw [hb] at r; exact r
   | false=>rw [hb] at r; exact r.mono h1 fun _ _=>rfl
  rw [e]
  exact g _ _ _ r2) (h5.mono h1 fun _ _=>rfl)).mono fun e w' ⟨v,us,m,e1,e2,e3⟩=>⟨v,us,m,e1,e2,⟨e3.val,e3.len,fun j r hj=>by
   obtain ⟨u,hu,hc⟩:=e3.comp j r hj
   exact ⟨u,hu,comp_flat hc (List.all_eq_true.1 hr r (List.mem_of_getElem? hj))⟩,e3.new,e3.apart⟩⟩
def mapO {α:Type} (f:FV->Option α):List FV->Option (List α)
 | []=>some []
 | x :: r=>match f x with
  | some a=>match mapO f r with
   | some l=>some (a :: l)
   | none=>none
  | none=>none
theorem mapO_eq {α:Type} {f:FV->Option α} {g:α->FV} (h:∀ x a,f x=some a->x=g a):∀ {xs:List FV} {l:List α},mapO f xs=some l->xs=l.map g
 | [],l,e=>by simp only [mapO,Option.some.injEq] at e; subst e; rfl
 | x :: r,l,e=>by
  simp only [mapO] at e
  split at e
  ·rename_i a ha
   split at e
   ·rename_i m hm
    simp only [Option.some.injEq] at e
    subst e
    rw [List.map_cons,<-h x a ha,<-mapO_eq h hm]
   ·cases e
  ·cases e
def listD {α:Type} (sz:Nat) (f:FV->Option α):FV->Option (List α)
 | .sl c s xs=>match xs with
  | []=>some []
  | x :: r=>bif Nat.beq s sz then mapO f (x :: r) else none
 | _=>none
theorem listD_ge {α:Type} {sz:Nat} {f:FV->Option α} {g:α->FV} (h:∀ x a,f x=some a->x=g a) {y:FV} {l:List α} (e:listD sz f y=some l):GeF y (.sl false sz (l.map g)):=by
 unfold listD at e
 split at e
 ·rename_i c s xs
  split at e
  ·simp only [Option.some.injEq] at e
   subst e
   exact ge_empty c s sz
  ·rename_i x r
   cases hs:Nat.beq s sz with
   | false=>rw [hs] at e; cases e
   | true =>
    rw [hs] at e
    have:=Nat.eq_of_beq_eq_true hs
    subst this
    rw [<-mapO_eq h e]
    exact ge_clip c s _
 ·cases e
def intD:FV->Option Int
 | .int .i64 n=>some n
 | _=>none
def stkD:FV->Option Stk
 | .agg [.str n,.int .i64 w]=>some (n,w)
 | _=>none
def loanD:FV->Option Loan
 | .agg [.str a,.str b,.int .i64 n,.int .i64 r]=>some ⟨a,b,n,r⟩
 | _=>none
def payD:FV->Option Pay
 | .agg [.int .i64 a,.int .i64 b,.int .i64 s]=>some ⟨a,b,s⟩
 | _=>none
theorem intD_eq (x:FV) (n:Int) (h:intD x=some n):x = .int .i64 n:=by
 unfold intD at h; split at h
 ·simp only [Option.some.injEq] at h; rw [h]
 ·cases h
theorem stkD_eq (x:FV) (p:Stk) (h:stkD x=some p):x=stF p:=by
 unfold stkD at h; split at h
 ·simp only [Option.some.injEq] at h; subst h; rfl
 ·cases h
theorem loanD_eq (x:FV) (p:Loan) (h:loanD x=some p):x=loF p:=by
 unfold loanD at h; split at h
 ·simp only [Option.some.injEq] at h; subst h; rfl
 ·cases h
theorem payD_eq (x:FV) (p:Pay) (h:payD x=some p):x=paF p:=by
 unfold payD at h; split at h
 ·simp only [Option.some.injEq] at h; subst h; rfl
 ·cases h
theorem intsD_ge {y:FV} {l:List Int} (e:listD 1 intD y=some l):GeF y (.sl false 1 (ints l)):=listD_ge intD_eq e
theorem stksD_ge {y:FV} {l:List Stk} (e:listD 2 stkD y=some l):GeF y (.sl false 2 (stL l)):=listD_ge stkD_eq e
theorem loansD_ge {y:FV} {l:List Loan} (e:listD 4 loanD y=some l):GeF y (.sl false 4 (loL l)):=listD_ge loanD_eq e
theorem paysD_ge {y:FV} {l:List Pay} (e:listD 3 payD y=some l):GeF y (.sl false 3 (paL l)):=listD_ge payD_eq e
def voyD:FV->Option Voy
 | .agg [.int .i64 g,c,.int .i64 b,.int .i64 n,.int .i64 k,o,l,h,x]=>match listD 1 intD c with
  | some c=>match listD 2 stkD o with
   | some o=>match listD 2 stkD l with
    | some l=>match listD 2 stkD h with
     | some h=>match listD 4 loanD x with
      | some x=>some ⟨g,c,b,n,k,o,l,h,x⟩
      | none=>none
     | none=>none
    | none=>none
   | none=>none
  | none=>none
 | _=>none
theorem voyD_ge {y:FV} {v:Voy} (e:voyD y=some v):GeF y (voyF v):=by
 unfold voyD at e
 split at e
 ·rename_i g c b n k o l h x
  split at e
  ·rename_i c' hc
   split at e
   ·rename_i o' ho
    split at e
    ·rename_i l' hl
     split at e
     ·rename_i h' hh
      split at e
      ·rename_i x' hx
       simp only [Option.some.injEq] at e
       subst e
       refine ge_agg rfl fun j p q hp hq=>?_
       match j with
       | 0=>cases hp; cases hq; exact ge_refl _
       | 1=>cases hp; cases hq; exact intsD_ge hc
       | 2=>cases hp; cases hq; exact ge_refl _
       | 3=>cases hp; cases hq; exact ge_refl _
       | 4=>cases hp; cases hq; exact ge_refl _
       | 5=>cases hp; cases hq; exact stksD_ge ho
       | 6=>cases hp; cases hq; exact stksD_ge hl
       | 7=>cases hp; cases hq; exact stksD_ge hh
       | 8=>cases hp; cases hq; exact loansD_ge hx
       | j+9=>simp at hp
      ·cases e
     ·cases e
    ·cases e
   ·cases e
  ·cases e
 ·cases e
def smallB (v:Voy):Bool:=Nat.ble v.costs.length 1000&&Nat.ble v.own.length 1000&&Nat.ble v.lend.length 1000&&Nat.ble v.hand.length 1000&&Nat.ble v.loans.length 1000
theorem smallB_small {v:Voy} (h:smallB v=true):Small v:=by
 simp only [smallB,Bool.and_eq_true,Nat.ble_eq] at h
 obtain ⟨⟨⟨⟨h1,h2⟩,h3⟩,h4⟩,h5⟩:=h
 exact ⟨by omega,by omega,by omega,by omega,by omega⟩
def cV (g:Voy->List TV):List (Bool×FV)->Option (List TV)
 | [(r,y)]=>match voyD y with
  | some v=>bif smallB v then some (g v) else none
  | none=>none
 | _=>none
theorem cV_ok {k:FuncId} {g:Voy->List TV} (h:∀ v,Small v->Valid Tryd.prog k [(false,voyF v)] (g v)) (hf:∀ v,(g v).all flatT=true) {xs:List (Bool×FV)} {res:List TV} (e:cV g xs=some res):Valid Tryd.prog k xs res:=by
 unfold cV at e
 split at e
 ·rename_i r y
  split at e
  ·rename_i v hv
   cases hs:smallB v with
   | false=>rw [hs] at e; cases e
   | true =>
    rw [hs] at e
    simp only [cond_true,Option.some.injEq] at e
    subst e
    exact valid_ro (h v (smallB_small hs)) rfl (fun j p q hp hq=>by
     match j with
     | 0=>cases hp; cases hq; exact ⟨rfl,voyD_ge hv⟩
     | j+1=>simp at hp) (hf v)
  ·cases e
 ·cases e
def cL (g:List Int->List TV):List (Bool×FV)->Option (List TV)
 | [(r,y)]=>match listD 1 intD y with
  | some l=>bif Nat.ble l.length 1000 then some (g l) else none
  | none=>none
 | _=>none
theorem cL_ok {k:FuncId} {g:List Int->List TV} (h:∀ r l,l.length<=1000->Valid Tryd.prog k [(r,.sl false 1 (ints l))] (g l)) {xs:List (Bool×FV)} {res:List TV} (e:cL g xs=some res):Valid Tryd.prog k xs res:=by
 unfold cL at e
 split at e
 ·rename_i r y
  split at e
  ·rename_i l hl
   cases hs:Nat.ble l.length 1000 with
   | false=>rw [hs] at e; cases e
   | true =>
    rw [hs] at e
    simp only [cond_true,Option.some.injEq] at e
    subst e
    exact valid_ge (h r l (Nat.le_of_ble_eq_true hs)) (intsD_ge hl)
  ·cases e
 ·cases e
def c15:List (Bool×FV)->Option (List TV)
 | [(r,.int .i64 a),(r2,y)]=>match listD 2 stkD y with
  | some l=>bif Nat.ble l.length 1000 then some [.us 1 (ints (divideF a l).1),.fv (.int .i64 (divideF a l).2)] else none
  | none=>none
 | _=>none
def c17:List (Bool×FV)->Option (List TV)
 | [(r,x),(r2,y)]=>match listD 1 intD x with
  | some l=>match listD 1 intD y with
   | some m=>bif Nat.ble l.length 1000&&Nat.ble m.length 1000 then some [.fv (.bool (decide (l=m)))] else none
   | none=>none
  | none=>none
 | _=>none
def c42:List (Bool×FV)->Option (List TV)
 | [(r,x),(r2,y)]=>match listD 1 intD x with
  | some l=>match listD 3 payD y with
   | some m=>bif Nat.ble l.length 1000&&Nat.ble m.length 1000 then some [.fv (.bool (isClearF l m).1),.fv (.int .i64 (isClearF l m).2)] else none
   | none=>none
  | none=>none
 | _=>none
theorem two_ge {k:FuncId} {r r2:Bool} {x y x' y':FV} {res:List TV} (h:Valid Tryd.prog k [(r,x'),(r2,y')] res) (h1:GeF x x') (h2:GeF y y'):Valid Tryd.prog k [(r,x),(r2,y)] res :=
 valid_ges h rfl fun j p q hp hq=>by
  match j with
  | 0=>cases hp; cases hq; exact ⟨rfl,h1⟩
  | 1=>cases hp; cases hq; exact ⟨rfl,h2⟩
  | j+2=>simp at hp
theorem c15_ok {xs:List (Bool×FV)} {res:List TV} (e:c15 xs=some res):Valid Tryd.prog 15 xs res:=by
 unfold c15 at e
 split at e
 ·rename_i r a r2 y
  split at e
  ·rename_i l hl
   cases hs:Nat.ble l.length 1000 with
   | false=>rw [hs] at e; cases e
   | true =>
    rw [hs] at e
    simp only [cond_true,Option.some.injEq] at e
    subst e
    have:=Nat.le_of_ble_eq_true hs
    exact two_ge (F15.ok ⟨(a,l,r,r2,false),by show l.length < 2^44; omega⟩) (ge_refl _) (stksD_ge hl)
  ·cases e
 ·cases e
theorem c17_ok {xs:List (Bool×FV)} {res:List TV} (e:c17 xs=some res):Valid Tryd.prog 17 xs res:=by
 unfold c17 at e
 split at e
 ·rename_i r x r2 y
  split at e
  ·rename_i l hl
   split at e
   ·rename_i m hm
    cases hs:Nat.ble l.length 1000&&Nat.ble m.length 1000 with
    | false=>rw [hs] at e; cases e
    | true =>
     rw [hs] at e
     simp only [cond_true,Option.some.injEq] at e
     subst e
     simp only [Bool.and_eq_true,Nat.ble_eq] at hs
     exact two_ge (F17.ok ⟨(l,m,r,false,r2,false),by show l.length < 2^62/\m.length < 2^62; omega⟩) (intsD_ge hl) (intsD_ge hm)
   ·cases e
  ·cases e
 ·cases e
theorem c42_ok {xs:List (Bool×FV)} {res:List TV} (e:c42 xs=some res):Valid Tryd.prog 42 xs res:=by
 unfold c42 at e
 split at e
 ·rename_i r x r2 y
  split at e
  ·rename_i l hl
   split at e
   ·rename_i m hm
    cases hs:Nat.ble l.length 1000&&Nat.ble m.length 1000 with
    | false=>rw [hs] at e; cases e
    | true =>
     rw [hs] at e
     simp only [cond_true,Option.some.injEq] at e
     subst e
     simp only [Bool.and_eq_true,Nat.ble_eq] at hs
     exact two_ge (F42.ok ⟨(l,m,r,r2,false,false),by show l.length < 2^44/\m.length < 2^44; omega⟩) (intsD_ge hl) (paysD_ge hm)
   ·cases e
  ·cases e
 ·cases e
def ctxK:Ctx:=fun k xs =>
 bif Nat.beq k 15 then c15 xs else bif Nat.beq k 17 then c17 xs else bif Nat.beq k 42 then c42 xs else
 bif Nat.beq k 18 then (match xs with | []=>some [.fv (.bool true)] | _=>none) else
 bif Nat.beq k 45 then (match xs with | []=>some [.us 1 (ints balV)] | _=>none) else
 bif Nat.beq k 19 then cV (fun v=>[.us 1 (ints (allClaims v)),.fv (.int .i64 (checkF v))]) xs else
 bif Nat.beq k 21 then cV (fun v=>[.fv (.int .i64 (checkF v))]) xs else
 bif Nat.beq k 23 then cV (fun v=>[.fv (.int .i64 ((partsR v).getD 0 0)),.fv (.int .i64 ((partsR v).getD 1 0)),.fv (.int .i64 ((partsR v).getD 2 0)),.fv (.int .i64 (checkF v))]) xs else
 bif Nat.beq k 25 then cV (fun v=>[.us 4 (duL (sharesF v)),.fv (.int .i64 (checkF v))]) xs else
 bif Nat.beq k 37 then cL (fun l=>[.us 1 (grL (groupsF l).1),.fv (.int .i64 (groupsF l).2)]) xs else
 bif Nat.beq k 41 then cL (fun l=>[.us 3 (paL (clearF l).1),.fv (.int .i64 (clearF l).2)]) xs else none
theorem bif_some {α:Type} {k n:Nat} {a b:Option α} {c:α} (h:(bif Nat.beq k n then a else b)=some c):(k=n/\a=some c)\/b=some c:=by
 cases hk:Nat.beq k n with
 | true=>rw [hk] at h; exact .inl ⟨Nat.eq_of_beq_eq_true hk,h⟩
 | false=>rw [hk] at h; exact .inr h
theorem ctxK_ok {k:FuncId} {xs:List (Bool×FV)} {res:List TV} (h:ctxK k xs=some res):Valid Tryd.prog k xs res/\Enters Tryd.prog k:=by
 unfold ctxK at h
 rcases bif_some h with ⟨rfl,h⟩ | h
 ·exact ⟨c15_ok h,F15.en⟩
 rcases bif_some h with ⟨rfl,h⟩ | h
 ·exact ⟨c17_ok h,F17.en⟩
 rcases bif_some h with ⟨rfl,h⟩ | h
 ·exact ⟨c42_ok h,F42.en⟩
 rcases bif_some h with ⟨rfl,h⟩ | h
 ·match xs,h with
  | [],h=>cases h; exact ⟨F18.ok ⟨(),trivial⟩,F18.en⟩
  | _ :: _,h=>cases h
 rcases bif_some h with ⟨rfl,h⟩ | h
 ·match xs,h with
  | [],h=>cases h; exact ⟨F45.ok ⟨(),trivial⟩,F45.en⟩
  | _ :: _,h=>cases h
 rcases bif_some h with ⟨rfl,h⟩ | h
 ·exact ⟨cV_ok (fun v hv=>F19.ok ⟨v,hv⟩) (fun v=>by simp [flatT,flat,flat1,ints]) h,F19.en⟩
 rcases bif_some h with ⟨rfl,h⟩ | h
 ·exact ⟨cV_ok (fun v hv=>F21.ok ⟨v,hv⟩) (fun v=>by simp [flatT,flat,flat1]) h,F21.en⟩
 rcases bif_some h with ⟨rfl,h⟩ | h
 ·exact ⟨cV_ok (fun v hv=>F23.ok ⟨v,hv⟩) (fun v=>by simp [flatT,flat,flat1]) h,F23.en⟩
 rcases bif_some h with ⟨rfl,h⟩ | h
 ·exact ⟨cV_ok (fun v hv=>F25.ok ⟨v,hv⟩) (fun v=>by simp [flatT,flat,flat1,duL,duF]) h,F25.en⟩
 rcases bif_some h with ⟨rfl,h⟩ | h
 ·exact ⟨cL_ok (fun r l hl=>F37.ok ⟨(l,r,false),by show l.length < 2^44; omega⟩) h,F37.en⟩
 rcases bif_some h with ⟨rfl,h⟩ | h
 ·exact ⟨cL_ok (fun r l hl=>F41.ok ⟨(l,r,false),by show l.length < 2^44; omega⟩) h,F41.en⟩
 cases h
end Go.Proofs.YtejodhjhddnbeaaDoor.E
