/-
  The dues (ShareDues): Shares returns what the chapter says, for any voyage. Conditions: none.
-/
import Derived.Test.YtejodhjhddnbeaaDoorZ25
import Derived.Test.YtejodhjhddnbeaaDoorZE1
set_option linter.unusedVariables false
set_option linter.unusedSimpArgs false
namespace Go.Proofs.YtejodhjhddnbeaaDoor.E
open Go Go.RowKit
def GeF (x y:FV):Prop:=∀ (Fz:Nat->Prop) (w:World) (v:Value),RepF Fz w x v->RepF Fz w y v
theorem ge_refl (x:FV):GeF x x:=fun _ _ _ h=>h
theorem ge_nil (sz:Nat):GeF (.sl true 0 []) (.sl false sz []):=fun Fz w v h=>by
 cases h with
 | sl0 _ _ a cap hc=>exact .sl0 false sz a cap (by simp)
 | sl _ _ xs b o len cap us hlen hcap hclip hb hsz hc hr =>
  simp at hlen
  subst hlen
  exact .sl0 false sz _ cap (by simp)
def LW (sz:Nat) (xs:List FV) (x:FV):Prop:=x = .sl false sz xs\/(xs=[]/\x = .sl true 0 [])
theorem LW.ge {sz:Nat} {xs:List FV} {x:FV} (h:LW sz xs x):GeF x (.sl false sz xs):=by
 rcases h with rfl | ⟨rfl,rfl⟩
 ·exact ge_refl _
 ·exact ge_nil sz
theorem LW.one {sz:Nat} {xs ys:List FV} {x:FV} (h:LW sz xs x) (h':LW sz ys x):xs=ys:=by
 rcases h with h | ⟨h1,h2⟩
 ·rcases h' with h' | ⟨h3,h4⟩
  ·rw [h] at h'; cases h'; rfl
  ·rw [h] at h4; cases h4
 ·rcases h' with h' | ⟨h3,h4⟩
  ·rw [h2] at h'; cases h'
  ·rw [h1,h3]
def voyX (v:Voy) (c o l h n:FV):FV:=.agg [.int .i64 v.gross,c,.int .i64 v.boat,.int .i64 v.nets,.int .i64 v.crew,o,l,h,n]
structure VoyW (v:Voy) (c o l h n:FV):Prop where
 c:LW 1 (ints v.costs) c
 o:LW 2 (stL v.own) o
 l:LW 2 (stL v.lend) l
 h:LW 2 (stL v.hand) h
 n:LW 4 (loL v.loans) n
theorem VoyW.self (v:Voy):VoyW v (.sl false 1 (ints v.costs)) (.sl false 2 (stL v.own)) (.sl false 2 (stL v.lend)) (.sl false 2 (stL v.hand)) (.sl false 4 (loL v.loans)):=⟨.inl rfl,.inl rfl,.inl rfl,.inl rfl,.inl rfl⟩
def H25x (ctx:Ctx):Prop:=∀ (v:Voy) (c o l h n:FV),Small v->VoyW v c o l h n->ctx 25 [(false,voyX v c o l h n)]=some [.us 4 (duL (sharesF v)),.fv (.int .i64 (checkF v))]
theorem H25x.at {ctx:Ctx} (h:H25x ctx) (v:Voy) (hv:Small v):ctx 25 [(false,voyF v)]=some [.us 4 (duL (sharesF v)),.fv (.int .i64 (checkF v))]:=h v _ _ _ _ _ hv (VoyW.self v)
theorem bl_of:∀ {a b:List UInt8},Go.Lib.compareBytes a b < 0->Op.bytesLess a b=true
 | _,[],h=>by rename_i a; cases a<;>simp [Go.Lib.compareBytes] at h
 | [],_ :: _,_=>rfl
 | x :: a,y :: b,h=>by
  unfold Go.Lib.compareBytes at h
  simp only [Op.bytesLess,Bool.or_eq_true,Bool.and_eq_true,decide_eq_true_eq,beq_iff_eq]
  rcases u8_cases x y with k | k | k
  ·exact .inl k
  ·subst k
   simp only [u8_irr,if_false] at h
   exact .inr ⟨rfl,bl_of h⟩
  ·rw [if_neg (u8_asym k),if_pos k] at h
   omega
theorem bl_not:∀ {a b:List UInt8},Op.bytesLess a b=true->Go.Lib.compareBytes a b < 0
 | _,[],h=>by rename_i a; cases a<;>simp [Op.bytesLess] at h
 | [],_ :: _,_=>by simp [Go.Lib.compareBytes]
 | x :: a,y :: b,h=>by
  unfold Go.Lib.compareBytes
  simp only [Op.bytesLess,Bool.or_eq_true,Bool.and_eq_true,decide_eq_true_eq,beq_iff_eq] at h
  rcases h with k | ⟨rfl,k⟩
  ·rw [if_pos k]; omega
  ·simp only [u8_irr,if_false]
   exact bl_not k
theorem sless_iff {a b:ByteArray}:sless a b=true↔nlt a b:=⟨fun h=>bl_not h,fun h=>bl_of h⟩
def colF (l:List Due) (f:Due->Int) (s:List Stk) (i:Nat):List Int:=(s.take i).map fun p=>f (dueS l p.1).1
@[simp] theorem colF_length (l:List Due) (f:Due->Int) (s:List Stk) (i:Nat) (h:i<=s.length):(colF l f s i).length=i:=by simp [colF]; omega
end Go.Proofs.YtejodhjhddnbeaaDoor.E
