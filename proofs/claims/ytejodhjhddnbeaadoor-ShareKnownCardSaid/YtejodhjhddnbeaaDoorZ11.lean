/-
  The chapter of the share: its functions, and what they compute. Conditions: none.
-/
import Derived.Test.YtejodhjhddnbeaaDoorZ10
import Derived.Test.YtejodhjhddnbeaaDoorZ07
set_option linter.unusedVariables false
set_option linter.unusedSimpArgs false
namespace Go.Proofs.YtejodhjhddnbeaaDoor.E
open Go Go.RowKit Go.Sort Go.Shelf
open Go.Lib (compareBytes)
theorem u8_cases (a b:UInt8):a < b\/a=b\/b < a:=by
 rcases Nat.lt_trichotomy a.toNat b.toNat with h | h | h
 ·exact .inl (UInt8.lt_iff_toNat_lt.2 h)
 ·exact .inr (.inl (UInt8.toNat_inj.1 h))
 ·exact .inr (.inr (UInt8.lt_iff_toNat_lt.2 h))
theorem u8_irr (a:UInt8):¬ a < a:=fun h=>Nat.lt_irrefl _ (UInt8.lt_iff_toNat_lt.1 h)
theorem u8_asym {a b:UInt8} (h:a < b):¬ b < a:=fun h'=>Nat.lt_irrefl _ (Nat.lt_trans (UInt8.lt_iff_toNat_lt.1 h) (UInt8.lt_iff_toNat_lt.1 h'))
theorem u8_trans {a b c:UInt8} (h:a < b) (h':b < c):a < c:=UInt8.lt_iff_toNat_lt.2 (Nat.lt_trans (UInt8.lt_iff_toNat_lt.1 h) (UInt8.lt_iff_toNat_lt.1 h'))
theorem cb_neg:∀ a b:List UInt8,compareBytes b a=- compareBytes a b
 | [],[]=>rfl
 | [],_ :: _=>rfl
 | _ :: _,[]=>rfl
 | a :: l,b :: m=>by
  simp only [compareBytes]
  rcases u8_cases a b with h | h | h
  ·simp [h,u8_asym h]
  ·subst h; simp [u8_irr,cb_neg l m]
  ·simp [h,u8_asym h]
theorem cb_zero:∀ {a b:List UInt8},compareBytes a b=0->a=b
 | [],[],_=>rfl
 | [],_ :: _,h=>by simp [compareBytes] at h
 | _ :: _,[],h=>by simp [compareBytes] at h
 | a :: l,b :: m,h=>by
  simp only [compareBytes] at h
  rcases u8_cases a b with h1 | h1 | h1
  ·simp [h1] at h
  ·subst h1; simp [u8_irr] at h; rw [cb_zero h]
  ·simp [h1,u8_asym h1] at h
theorem cb_self (a:List UInt8):compareBytes a a=0:=by
 have:=cb_neg a a
 omega
theorem cb_trans:∀ {a b c:List UInt8},compareBytes a b < 0->compareBytes b c < 0->compareBytes a c < 0
 | [],[],_,h,_=>by simp [compareBytes] at h
 | [],_ :: _,[],_,h=>by simp [compareBytes] at h
 | [],_ :: _,_ :: _,_,_=>by simp [compareBytes]
 | _ :: _,[],_,h,_=>by simp [compareBytes] at h
 | _ :: _,_ :: _,[],_,h=>by simp [compareBytes] at h
 | a :: l,b :: m,c :: n,h,h'=>by
  simp only [compareBytes] at h h' ⊢
  rcases u8_cases a b with h1 | h1 | h1
  ·rcases u8_cases b c with h2 | h2 | h2
   ·simp [u8_trans h1 h2]
   ·subst h2; simp [h1]
   ·simp [h2,u8_asym h2] at h'
  ·subst h1
   rcases u8_cases a c with h2 | h2 | h2
   ·simp [h2]
   ·subst h2; simp [u8_irr] at h h' ⊢; exact cb_trans h h'
   ·simp [h2,u8_asym h2] at h'
  ·simp [h1,u8_asym h1] at h
def nlt (a b:ByteArray):Prop:=cmpB a b < 0
instance (a b:ByteArray):Decidable (nlt a b):=inferInstanceAs (Decidable (_ < _))
theorem nlt_irr (a:ByteArray):¬ nlt a a:=by unfold nlt cmpB; rw [cb_self]; omega
theorem nlt_trans {a b c:ByteArray} (h:nlt a b) (h':nlt b c):nlt a c:=cb_trans h h'
theorem nlt_asym {a b:ByteArray} (h:nlt a b):¬ nlt b a:=fun h'=>nlt_irr a (nlt_trans h h')
theorem cmpB_zero {a b:ByteArray} (h:cmpB a b=0):a=b:=by
 have:=cb_zero h
 obtain ⟨⟨a⟩⟩:=a
 obtain ⟨⟨b⟩⟩:=b
 simp at this
 rw [this]
theorem nlt_total {a b:ByteArray} (h:a≠b):nlt a b\/nlt b a:=by
 have h1:cmpB b a=- cmpB a b:=cb_neg _ _
 have h2:cmpB a b≠0:=fun e=>h (cmpB_zero e)
 unfold nlt
 omega
theorem nlt_ntrans {a b c:ByteArray} (h:¬ nlt a b) (h':¬ nlt b c):¬ nlt a c:=fun h2=>by
 by_cases e:a=b
 ·subst e; exact h' h2
 ·have h3:=(nlt_total e).resolve_left h
  exact h' (nlt_trans h3 h2)
theorem cmpS_lt (x y:Shr):cmpS x y < 0↔y.r < x.r\/(x.r=y.r/\nlt x.n y.n):=by
 unfold cmpS orI cmpI nlt
 rcases Int.lt_trichotomy y.r x.r with h | h | h
 ·simp [h]
 ·rw [h]
  by_cases hz:cmpB x.n y.n=0
  ·simp [hz]
  ·simp [hz]
 ·simp [h,show ¬ y.r < x.r by omega]
  omega
instance:Inhabited Shr:=⟨⟨.empty,0,0,0,0⟩⟩
theorem swoS:SWO (ltOf cmpS) where
 irrefl x:=by
  simp only [ltOf,decide_eq_false_iff_not,cmpS_lt]
  rintro (h | ⟨_,h⟩)
  ·omega
  ·exact nlt_irr _ h
 trans x y z:=by
  simp only [ltOf,decide_eq_true_eq,cmpS_lt]
  rintro (h | ⟨h,k⟩) (h' | ⟨h',k'⟩)
  ·left; omega
  ·left; omega
  ·left; omega
  ·exact .inr ⟨h.trans h',nlt_trans k k'⟩
 ntrans x y z:=by
  simp only [ltOf,decide_eq_false_iff_not,cmpS_lt,not_or,not_and]
  rintro ⟨h1,h2⟩ ⟨h3,h4⟩
  refine ⟨by omega,fun e=>?_⟩
  have e1:x.r=y.r:=by omega
  have e2:y.r=z.r:=by omega
  exact nlt_ntrans (h2 e1) (h4 e2)
def insr {α:Type} (c:α->α->Int):List α->α->List α
 | [],x=>[x]
 | y :: s,x=>if c x y < 0 then y :: insr c s x else x :: y :: s
def isr {α:Type} (c:α->α->Int) (l:List α):List α:=(l.foldl (insr c) []).reverse
theorem insr_perm {α:Type} (c:α->α->Int):∀ (s:List α) (x:α),(insr c s x).Perm (x :: s)
 | [],x=>.refl _
 | y :: s,x=>by
  simp only [insr]
  split
  ·exact ((insr_perm c s x).cons y).trans (List.Perm.swap _ _ _)
  ·exact .refl _
theorem insr_sorted {α:Type} {c:α->α->Int} (hS:SWO (ltOf c)):∀ (s:List α) (x:α),s.Pairwise (fun u v=>ltOf c u v=false)->(insr c s x).Pairwise (fun u v=>ltOf c u v=false)
 | [],x,_=>by simp [insr]
 | y :: s,x,h=>by
  simp only [List.pairwise_cons] at h
  simp only [insr]
  split
  ·rename_i hlt
   refine List.pairwise_cons.2 ⟨fun v hv=>?_,insr_sorted hS s x h.2⟩
   rcases List.mem_cons.1 ((insr_perm c s x).subset hv) with rfl | hv
   ·exact hS.asymmA (by simpa [ltOf] using hlt)
   ·exact h.1 v hv
  ·rename_i hlt
   have hx:ltOf c x y=false:=by simpa [ltOf] using hlt
   refine List.pairwise_cons.2 ⟨fun v hv=>?_,List.pairwise_cons.2 h⟩
   rcases List.mem_cons.1 hv with rfl | hv
   ·exact hx
   ·exact hS.ntrans _ _ _ hx (h.1 v hv)
theorem isr_perm {α:Type} (c:α->α->Int) (l:List α):(isr c l).Perm l:=by
 have key:∀ (l s:List α),(l.foldl (insr c) s).Perm (s++l):=by
  intro l
  induction l with
  | nil=>intro s; simp
  | cons x l ih =>
   intro s
   refine (ih _).trans ?_
   refine ((insr_perm c s x).append_right l).trans ?_
   exact (List.perm_middle).symm
 exact (List.reverse_perm _).trans (by simpa using key l [])
theorem isr_sorted {α:Type} {c:α->α->Int} (hS:SWO (ltOf c)) (l:List α):(isr c l).Pairwise (fun u v=>ltOf c v u=false):=by
 have key:∀ (l s:List α),s.Pairwise (fun u v=>ltOf c u v=false)->(l.foldl (insr c) s).Pairwise (fun u v=>ltOf c u v=false):=by
  intro l
  induction l with
  | nil=>intro s h; exact h
  | cons x l ih=>intro s h; exact ih _ (insr_sorted hS s x h)
 unfold isr
 rw [List.pairwise_reverse]
 exact key l [] List.Pairwise.nil
theorem isr_length {α:Type} (c:α->α->Int) (l:List α):(isr c l).length=l.length:=(isr_perm c l).length_eq
theorem isr_uniq {α:Type} [Inhabited α] {c:α->α->Int} (hS:SWO (ltOf c)) {l:List α} (hanti:∀ a∈l,∀ b∈l,ltOf c a b=false->ltOf c b a=false->a=b) (d':Array α) (hP:PermIn 0 l.toArray.size l.toArray d') (hSo:SortedIn (ltOf c) 0 l.toArray.size d'):d'=(isr c l).toArray:=by
 obtain ⟨hsz,_,hperm⟩:=hP
 have e1:d'.extract 0 l.toArray.size=d':=by rw [<-hsz]; exact Array.extract_size
 rw [e1,Array.extract_size] at hperm
 have hp:d'.toList.Perm l:=by simpa using hperm
 have:d'.toList=isr c l:=by
  refine List.Perm.eq_of_pairwise (le:=fun x y=>ltOf c y x=false) (fun a b ha hb h1 h2=>hanti a (hp.subset ha) b ((isr_perm c l).subset hb) h2 h1) ?_ (isr_sorted hS l) (hp.trans (isr_perm c l).symm)
  rw [List.pairwise_iff_getElem]
  intro i j hi hj hij
  have hi':i < d'.size:=by simpa using hi
  have hj':j < d'.size:=by simpa using hj
  have:=hSo i j (Nat.zero_le _) hij (by omega)
  rw [getElem!_pos d' j hj',getElem!_pos d' i hi'] at this
  simpa using this
 rw [<-this]
def shL (l:List Shr):List FV:=l.map shF
@[simp] theorem shL_length (l:List Shr):(shL l).length=l.length:=by simp [shL]
@[simp] theorem shL_get? (l:List Shr) (i:Nat):(shL l)[i]? = (l[i]?).map shF:=by simp [shL]
@[simp] theorem shL_get (l:List Shr) (i:Nat) (h:i < (shL l).length):(shL l)[i]=shF (l[i]'(by simpa using h)):=by simp [shL]
def encSV (x:Shr):List Value:=[.string x.n,.int .i64 x.w,.int .i64 x.g,.int .i64 x.r,.int .i64 x.p]
def encSF (x:Shr):List FV:=[.str x.n,.int .i64 x.w,.int .i64 x.g,.int .i64 x.r,.int .i64 x.p]
theorem encS_ok:EncOk encSV encSF 5 where
 len _:=rfl
 lenF _:=rfl
 one x v hv:=by simp only [encSV,List.mem_cons,List.not_mem_nil,or_false] at hv; rcases hv with rfl | rfl | rfl | rfl | rfl<;>rfl
 flat x v hv:=by simp only [encSF,List.mem_cons,List.not_mem_nil,or_false] at hv; rcases hv with rfl | rfl | rfl | rfl | rfl<;>rfl
 nag x v hv:=by simp only [encSF,List.mem_cons,List.not_mem_nil,or_false] at hv; rcases hv with rfl | rfl | rfl | rfl | rfl<;>rfl
 rep x j y hj Fz w:=by
  match j,hj with
  | 0,hj=>simp only [encSF,List.getElem?_cons_zero,Option.some.injEq] at hj; subst hj; exact .str _
  | 1,hj=>simp only [encSF,List.getElem?_cons_succ,List.getElem?_cons_zero,Option.some.injEq] at hj; subst hj; exact .int _ _
  | 2,hj=>simp only [encSF,List.getElem?_cons_succ,List.getElem?_cons_zero,Option.some.injEq] at hj; subst hj; exact .int _ _
  | 3,hj=>simp only [encSF,List.getElem?_cons_succ,List.getElem?_cons_zero,Option.some.injEq] at hj; subst hj; exact .int _ _
  | 4,hj=>simp only [encSF,List.getElem?_cons_succ,List.getElem?_cons_zero,Option.some.injEq] at hj; subst hj; exact .int _ _
  | j+5,hj=>simp [encSF] at hj
 back x j y hj Fz w v h:=by
  match j,hj with
  | 0,hj=>simp only [encSF,List.getElem?_cons_zero,Option.some.injEq] at hj; subst hj; cases h; rfl
  | 1,hj=>simp only [encSF,List.getElem?_cons_succ,List.getElem?_cons_zero,Option.some.injEq] at hj; subst hj; cases h; rfl
  | 2,hj=>simp only [encSF,List.getElem?_cons_succ,List.getElem?_cons_zero,Option.some.injEq] at hj; subst hj; cases h; rfl
  | 3,hj=>simp only [encSF,List.getElem?_cons_succ,List.getElem?_cons_zero,Option.some.injEq] at hj; subst hj; cases h; rfl
  | 4,hj=>simp only [encSF,List.getElem?_cons_succ,List.getElem?_cons_zero,Option.some.injEq] at hj; subst hj; cases h; rfl
  | j+5,hj=>simp [encSF] at hj
theorem sortS_row (hv:∀ x y:Shr,Valid Tryd.prog 89 [(false,shF x),(false,shF y)] [.fv (.int .i64 (cmpS x y))]) {l:List Shr} (hl:l.length < 4611686018427387904) (hd:∀ a∈l,∀ b∈l,a.n=b.n->a=b):ValidC Tryd.prog 92 89 5 (shL l) (shL (isr cmpS l)) :=
 validC_of_kit (ρ:=Tryd.mSortS_ren) Tryd.mSortS encS_ok (by omega) Tryd.isAgg117 Tryd.sizeOf117 cmpS swoS 89 (enters_of Tryd.func89 (by kernel_rfl) rfl) hv hl
  (isr_uniq swoS fun a ha b hb h1 h2=>hd a ha b hb (by
   simp only [ltOf,decide_eq_false_iff_not,cmpS_lt,not_or,not_and] at h1 h2
   by_cases e:a.n=b.n
   ·exact e
   ·exact absurd (nlt_total e) (by
     have e1:a.r=b.r:=by omega
     exact not_or.2 ⟨h1.2 e1,h2.2 e1.symm⟩))) (isr_length _ _)
structure Due where
 n:ByteArray
 b:Int
 t:Int
 c:Int
instance:Inhabited Due:=⟨⟨.empty,0,0,0⟩⟩
def duF (x:Due):FV:=.agg [.str x.n,.int .i64 x.b,.int .i64 x.t,.int .i64 x.c]
def duL (l:List Due):List FV:=l.map duF
@[simp] theorem duL_length (l:List Due):(duL l).length=l.length:=by simp [duL]
@[simp] theorem duL_get? (l:List Due) (i:Nat):(duL l)[i]? = (l[i]?).map duF:=by simp [duL]
@[simp] theorem duL_get (l:List Due) (i:Nat) (h:i < (duL l).length):(duL l)[i]=duF (l[i]'(by simpa using h)):=by simp [duL]
def encDV (x:Due):List Value:=[.string x.n,.int .i64 x.b,.int .i64 x.t,.int .i64 x.c]
def encDF (x:Due):List FV:=[.str x.n,.int .i64 x.b,.int .i64 x.t,.int .i64 x.c]
theorem encD_ok:EncOk encDV encDF 4 where
 len _:=rfl
 lenF _:=rfl
 one x v hv:=by simp only [encDV,List.mem_cons,List.not_mem_nil,or_false] at hv; rcases hv with rfl | rfl | rfl | rfl<;>rfl
 flat x v hv:=by simp only [encDF,List.mem_cons,List.not_mem_nil,or_false] at hv; rcases hv with rfl | rfl | rfl | rfl<;>rfl
 nag x v hv:=by simp only [encDF,List.mem_cons,List.not_mem_nil,or_false] at hv; rcases hv with rfl | rfl | rfl | rfl<;>rfl
 rep x j y hj Fz w:=by
  match j,hj with
  | 0,hj=>simp only [encDF,List.getElem?_cons_zero,Option.some.injEq] at hj; subst hj; exact .str _
  | 1,hj=>simp only [encDF,List.getElem?_cons_succ,List.getElem?_cons_zero,Option.some.injEq] at hj; subst hj; exact .int _ _
  | 2,hj=>simp only [encDF,List.getElem?_cons_succ,List.getElem?_cons_zero,Option.some.injEq] at hj; subst hj; exact .int _ _
  | 3,hj=>simp only [encDF,List.getElem?_cons_succ,List.getElem?_cons_zero,Option.some.injEq] at hj; subst hj; exact .int _ _
  | j+4,hj=>simp [encDF] at hj
 back x j y hj Fz w v h:=by
  match j,hj with
  | 0,hj=>simp only [encDF,List.getElem?_cons_zero,Option.some.injEq] at hj; subst hj; cases h; rfl
  | 1,hj=>simp only [encDF,List.getElem?_cons_succ,List.getElem?_cons_zero,Option.some.injEq] at hj; subst hj; cases h; rfl
  | 2,hj=>simp only [encDF,List.getElem?_cons_succ,List.getElem?_cons_zero,Option.some.injEq] at hj; subst hj; cases h; rfl
  | 3,hj=>simp only [encDF,List.getElem?_cons_succ,List.getElem?_cons_zero,Option.some.injEq] at hj; subst hj; cases h; rfl
  | j+4,hj=>simp [encDF] at hj
def cmpD (x y:Due):Int:=cmpB x.n y.n
theorem swoD:SWO (ltOf cmpD) where
 irrefl x:=by simp only [ltOf,decide_eq_false_iff_not]; exact nlt_irr _
 trans x y z:=by simp only [ltOf,decide_eq_true_eq]; exact fun h h'=>nlt_trans h h'
 ntrans x y z:=by simp only [ltOf,decide_eq_false_iff_not]; exact fun h h'=>nlt_ntrans h h'
theorem v64 (ctx:Ctx) (hC:CtxOk (pg ctx)) (h65:H65 ctx) (x y:Due) (r1 r2:Bool):Valid Tryd.prog 64 [(r1,duF x),(r2,duF y)] [.fv (.int .i64 (cmpD x y))]:=by
 refine valid_of_ev (G:=pg ctx) (tok ctx) hC mixed Tryd.func64 T64 L64 (by simp [Tryd.ntmps64]) ⟨_,rfl,?_⟩
 simp only [Tryd.ntmps64,Tryd.results64,initSt,initEnv,duF]
 have e65:∀ a b,ctx 65 [(false,.str a),(false,.str b)]=some [.fv (.int .i64 (cmpB a b))]:=fun a b=>h65 a b _ _
 refine ev_seq (ev_reg (by simp; rfl) ?_)
 refine ev_seq (ev_reg (by simp [e65]; rfl) ?_)
 refine ev_ret ?_
 simp [cmpD]
theorem sortD_row (hv:∀ x y:Due,Valid Tryd.prog 64 [(false,duF x),(false,duF y)] [.fv (.int .i64 (cmpD x y))]) {l:List Due} (hl:l.length < 4611686018427387904) (hd:∀ a∈l,∀ b∈l,a.n=b.n->a=b):ValidC Tryd.prog 63 64 4 (duL l) (duL (isr cmpD l)) :=
 validC_of_kit (ρ:=Tryd.mSortD_ren) Tryd.mSortD encD_ok (by omega) Tryd.isAgg53 Tryd.sizeOf53 cmpD swoD 64 (enters_of Tryd.func64 (by kernel_rfl) rfl) hv hl
  (isr_uniq swoD fun a ha b hb h1 h2=>hd a ha b hb (by
   simp only [ltOf,decide_eq_false_iff_not] at h1 h2
   by_cases e:a.n=b.n
   ·exact e
   ·exact absurd (nlt_total e) (not_or.2 ⟨h1,h2⟩))) (isr_length _ _)
def okc (n:Int):Bool:=(decide (97<=n)&&decide (n<=122))||(decide (48<=n)&&decide (n<=57))||n==45
def bys (s:ByteArray):List UInt8:=s.data.toList
@[simp] theorem bys_length (s:ByteArray):(bys s).length=s.size:=by simp [bys]
@[simp] theorem bytesF_length (s:ByteArray):(bytesF s).length=s.size:=by simp [bytesF]
@[simp] theorem bytesF_get (s:ByteArray) (i:Nat) (h:i < (bytesF s).length):(bytesF s)[i] = .int .u8 ((bys s)[i]'(by simpa using h)).toNat:=by simp [bytesF,bys]
def fstB (s:ByteArray):UInt8:=(bys s).headD 0
def nameOk (s:ByteArray):Bool:=(decide (1<=s.size)&&decide (s.size<=16))&&!(fstB s < 97)&&(bys s).all fun b=>okc b.toNat
theorem first_byte {s:ByteArray} (h:1<=s.size):s[0]? = some (fstB s):=by
 obtain ⟨⟨l⟩⟩:=s
 cases l with
 | nil=>simp [ByteArray.size] at h
 | cons b r=>rfl
theorem take_allT {α:Type} {p:α->Bool} {l:List α} {i:Nat} (hi:i < l.length) (hn:∀ x∈l.take i,p x=true) (h:p l[i]=true):∀ x∈l.take (i+1),p x=true:=by
 intro x hx
 rw [List.take_add_one,List.getElem?_eq_getElem hi] at hx
 simp only [Option.toList_some,List.mem_append,List.mem_singleton] at hx
 rcases hx with hx | rfl
 ·exact hn x hx
 ·exact h
theorem v74 (ctx:Ctx) (hC:CtxOk (pg ctx)) (h46:H46 ctx) (s:ByteArray) (ro:Bool):Valid Tryd.prog 74 [(ro,.str s)] [.fv (.bool (nameOk s))]:=by
 refine valid_of_ev (G:=pg ctx) (tok ctx) hC mixed Tryd.func74 T74 L74 (by simp [Tryd.ntmps74]) ⟨_,rfl,?_⟩
 simp only [Tryd.ntmps74,Tryd.results74,initSt,initEnv]
 refine ev_seq (ev_reg (by simp; rfl) ?_)
 have e46:ctx 46 [(false,.int .i64 s.size),(false,.int .i64 1),(false,.int .i64 16)]=some [.fv (.bool (decide (1<=s.size)&&decide (s.size<=16)))]:=by
  rw [h46]
  congr 4
  rw [Bool.eq_iff_iff]
  simp only [Bool.and_eq_true,decide_eq_true_eq]
  omega
 cases hz:decide (1<=s.size)&&decide (s.size<=16) with
 | false =>
  rw [hz] at e46
  refine ev_seq (ev_seq (ev_reg (by simp [e46,unsetS]; rfl) ?_))
  refine ev_cond rfl (fun hb=>?_) (fun hb=>?_)
  ·refine ev_seq (ev_reg (by simp; rfl) ?_)
   refine ev_ret ?_
   simp [nameOk,hz]
  ·simp at hb
 | true =>
  rw [hz] at e46
  have h1:1<=s.size:=by simp at hz; exact hz.1
  have h16:s.size<=16:=by simp at hz; exact hz.2
  have h0:=first_byte h1
  have hfst:decide ((fstB s).toNat < 97)=decide (fstB s < 97):=by rw [decide_eq_decide,UInt8.lt_iff_toNat_lt]; rfl
  refine ev_seq (ev_seq (ev_reg (by simp [e46,h0]; rfl) ?_))
  refine ev_cond rfl (fun hb=>?_) (fun hb=>?_)
  ·refine ev_seq (ev_reg (by simp; rfl) ?_)
   refine ev_ret ?_
   have hb':fstB s < 97:=by
    rw [UInt8.lt_iff_toNat_lt]
    simp at hb
    have:(97:UInt8).toNat=97:=rfl
    omega
   have hno:nameOk s=false:=by unfold nameOk; rw [hz,decide_eq_true hb']; rfl
   simp [hno]
  ·have hb':¬ fstB s < 97:=by
    rw [UInt8.lt_iff_toNat_lt]
    simp at hb
    have:(97:UInt8).toNat=97:=rfl
    omega
   refine ev_skip ?_
   refine ev_seq (ev_seq (ev_reg (by simp; rfl) ?_))
   refine ev_block ?_
   refine ev_loop (fun i:Nat=>({ env:=[(15,V.fv false (.sl false 1 (bytesF s))),(16,V.fv false (FV.int .i64 s.size)),(17,V.fv false (FV.int .i64 i))],blk:=[] }:St)) (fun i=>s.size-i) (fun i=>i<=s.size/\∀ b∈(bys s).take i,okc b.toNat=true) 0 rfl (by simp) (by simp [R]; omega) (fun i hi=>?_)
   obtain ⟨hi,hn⟩:=hi
   refine ev_seq (ev_reg (by simp; rfl) ?_)
   refine ev_seq (ev_cond rfl (fun hb2=>?_) (fun hb2=>?_))
   ·simp at hb2
    have hbl:i < (bys s).length:=by simpa using hb2
    refine ev_skip ?_
    refine ev_seq (ev_block ?_)
    refine ev_seq (ev_reg (by simp [hb2]; rfl) ?_)
    have hc0:((bys s)[i].toNat:Int) < 256:=by have:=(bys s)[i].toNat_lt; omega
    have hwc:IntKind.i64.wrap ((bys s)[i].toNat:Int)=(bys s)[i].toNat:=wrap_id (by omega) (by omega)
    have hokc:okc (bys s)[i].toNat=((decide (97<=((bys s)[i].toNat:Int))&&decide (((bys s)[i].toNat:Int)<=122))||(decide (48<=((bys s)[i].toNat:Int))&&decide (((bys s)[i].toNat:Int)<=57))||((bys s)[i].toNat:Int)==45):=rfl
    have e1:ctx 46 [(false,.int .i64 (bys s)[i].toNat),(false,.int .i64 97),(false,.int .i64 122)]=some [.fv (.bool (decide (97<=((bys s)[i].toNat:Int))&&decide (((bys s)[i].toNat:Int)<=122)))]:=h46 _ _ _ _ _ _
    have e2:ctx 46 [(false,.int .i64 (bys s)[i].toNat),(false,.int .i64 48),(false,.int .i64 57)]=some [.fv (.bool (decide (48<=((bys s)[i].toNat:Int))&&decide (((bys s)[i].toNat:Int)<=57)))]:=h46 _ _ _ _ _ _
    generalize (decide (97<=((bys s)[i].toNat:Int))&&decide (((bys s)[i].toNat:Int)<=122))=p at *
    generalize (decide (48<=((bys s)[i].toNat:Int))&&decide (((bys s)[i].toNat:Int)<=57))=q at *
    cases p<;>cases q
    ·refine ev_seq (ev_reg (by simp [e1,e2,hwc]; rfl) ?_)
     refine ev_cond rfl (fun hb3=>?_) (fun hb3=>?_)
     ·have hbad:okc (bys s)[i].toNat=false:=by rw [hokc]; simpa using hb3
      refine ev_seq (ev_reg (by simp; rfl) ?_)
      refine ev_ret ?_
      have hno:nameOk s=false:=by
       have:(bys s).all (fun b=>okc b.toNat)=false:=by
        rw [List.all_eq_false]
        exact ⟨_,List.getElem_mem hbl,by simp [hbad]⟩
       unfold nameOk; rw [this]; simp
      simp [hno]
     ·have hgood:okc (bys s)[i].toNat=true:=by rw [hokc]; simpa using hb3
      refine ev_skip ?_
      refine ev_reg (by simp; rfl) ?_
      refine ⟨i+1,?_,⟨by omega,take_allT (p:=fun b:UInt8=>okc b.toNat) hbl hn hgood⟩,by omega⟩
      simp
      exact wrap_nat (n:=i+1) (by omega)
    all_goals (
     have hgood:okc (bys s)[i].toNat=true:=by rw [hokc]; simp
     refine ev_seq (ev_reg (by simp [e1,e2,hwc]; rfl) ?_)
     refine ev_cond rfl (fun hb3=>?_) (fun hb3=>?_)
     ·simp at hb3
     ·refine ev_skip ?_
      refine ev_reg (by simp; rfl) ?_
      refine ⟨i+1,?_,⟨by omega,take_allT (p:=fun b:UInt8=>okc b.toNat) hbl hn hgood⟩,by omega⟩
      simp
      exact wrap_nat (n:=i+1) (by omega))
   ·simp at hb2
    refine ev_exit ?_
    refine ev_seq (ev_reg (by simp; rfl) ?_)
    refine ev_ret ?_
    have hall:(bys s).all (fun b=>okc b.toNat)=true:=by
     rw [List.take_of_length_le (by simpa using hb2)] at hn
     simpa using hn
    simp only [nameOk,hz,hb',hall]
    simp
def H74 (ctx:Ctx):Prop:=∀ (s:ByteArray) (ro:Bool),ctx 74 [(ro,.str s)]=some [.fv (.bool (nameOk s))]
def stAt (l:List Stk) (j:Nat):Bool :=
 match l[j]? with
 | some x=>nameOk x.1&&(decide (0<=x.2)&&decide (x.2<=1000))&&!((l.take j).any fun p=>p.1==x.1)
 | none=>true
def stTo (l:List Stk) (i:Nat):Bool:=decide (l.length<=10)&&(List.range i).all (stAt l)
def stakesOk (l:List Stk):Bool:=stTo l l.length
theorem stTo_succ (l:List Stk) (i:Nat):stTo l (i+1)=(stTo l i&&stAt l i):=by
 simp [stTo,List.range_succ,Bool.and_assoc]
theorem v47 (ctx:Ctx) (hC:CtxOk (pg ctx)) (h46:H46 ctx) (h74:H74 ctx) (h75:H75 ctx) (l:List Stk) (ro c:Bool) (hl:l.length < 2^44):Valid Tryd.prog 47 [(ro,.sl c 2 (stL l))] [.fv (.bool (stakesOk l))]:=by
 refine valid_of_ev (G:=pg ctx) (tok ctx) hC mixed Tryd.func47 T47 L47 (by simp [Tryd.ntmps47]) ⟨_,rfl,?_⟩
 simp only [Tryd.ntmps47,Tryd.results47,initSt,initEnv]
 refine ev_seq (ev_reg (by simp; rfl) ?_)
 refine ev_seq (ev_reg (by simp; rfl) ?_)
 refine ev_seq (ev_seq (ev_reg (by simp; rfl) ?_))
 refine ev_block ?_
 refine ev_loop (fun i:Nat=>({ env:=[(0,V.fv ro (FV.sl c 2 (stL l))),(3,V.fv false (.bool (stTo l i))),(9,V.fv ro (FV.sl c 2 (stL l))),(10,V.fv false (FV.int .i64 l.length)),(11,V.fv false (FV.int .i64 i))],blk:=[] }:St)) (fun i=>l.length-i) (fun i=>i<=l.length) 0 (by simp [stTo]; omega) (by simp) (by simp [R]; omega) (fun i hi=>?_)
 refine ev_seq (ev_reg (by simp; rfl) ?_)
 refine ev_seq (ev_cond rfl (fun hb=>?_) (fun hb=>?_))
 ·simp at hb
  refine ev_skip ?_
  refine ev_seq (ev_block ?_)
  refine ev_seq (ev_reg (by simp [hb]; rfl) ?_)
  have hs:=stTo_succ l i
  have hst:stAt l i=(nameOk l[i].1&&(decide (0<=l[i].2)&&decide (l[i].2<=1000))&&!((l.take i).any fun p=>p.1==l[i].1)):=by simp [stAt,hb]
  have e74:ctx 74 [(false,.str l[i].1)]=some [.fv (.bool (nameOk l[i].1))]:=h74 _ _
  have e46:ctx 46 [(false,.int .i64 l[i].2),(false,.int .i64 0),(false,.int .i64 1000)]=some [.fv (.bool (decide (0<=l[i].2)&&decide (l[i].2<=1000)))]:=h46 _ _ _ _ _ _
  have e75:∀ r1 r2 c',ctx 75 [(r1,.sl c' 2 (stL (l.take i))),(r2,.fn (.func 76) [] [.pt [.str l[i].1,.int .i64 l[i].2] 0])]=some [.fv (.bool ((l.take i).any fun p=>p.1==l[i].1))]:=fun r1 r2 c'=>h75 _ _ _ _ _ _ (by simp; omega)
  have hil:i<=l.length:=hi
  generalize nameOk l[i].1=a at *
  generalize (decide (0<=l[i].2)&&decide (l[i].2<=1000))=b at *
  generalize ((l.take i).any fun p=>p.1==l[i].1)=d at *
  rw [hst] at hs
  cases h0:stTo l i with
  | false =>
   rw [h0] at hs
   refine ev_reg (by simp [unsetS]; rfl) ?_
   refine ev_reg (by simp; rfl) ?_
   refine ⟨i+1,?_,by omega,by omega⟩
   simp [hs]
   exact wrap_nat (n:=i+1) (by omega)
  | true =>
   rw [h0] at hs
   cases a with
   | false =>
    refine ev_reg (by simp [e74,unsetS]; rfl) ?_
    refine ev_reg (by simp; rfl) ?_
    refine ⟨i+1,?_,by omega,by omega⟩
    simp [hs]
    exact wrap_nat (n:=i+1) (by omega)
   | true =>
    cases b with
    | false =>
     refine ev_reg (by simp [e74,e46,unsetS]; rfl) ?_
     refine ev_reg (by simp; rfl) ?_
     refine ⟨i+1,?_,by omega,by omega⟩
     simp [hs]
     exact wrap_nat (n:=i+1) (by omega)
    | true =>
     refine ev_reg (by simp [e74,e46,e75,hil]; rfl) ?_
     refine ev_reg (by simp; rfl) ?_
     refine ⟨i+1,?_,by omega,by omega⟩
     simp [hs]
     exact wrap_nat (n:=i+1) (by omega)
 ·simp at hb
  refine ev_exit ?_
  refine ev_seq (ev_reg (by simp; rfl) ?_)
  refine ev_ret ?_
  obtain rfl:i=l.length:=by omega
  simp [stakesOk]
def H47 (ctx:Ctx):Prop:=∀ (l:List Stk) (ro c:Bool),l.length < 2^44->ctx 47 [(ro,.sl c 2 (stL l))]=some [.fv (.bool (stakesOk l))]
end Go.Proofs.YtejodhjhddnbeaaDoor.E
