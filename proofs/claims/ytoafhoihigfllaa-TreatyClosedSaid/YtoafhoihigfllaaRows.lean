/-
  No cell of these rows narrows 'for every input' (looked for: loops, veiled, ifaces, maps, wideKeys, modest, calm, conditions, laid).
  DERIVED. THE GIVEN ROWS OF THIS SEAT. 12 by the template 'for every input the law returns true; each argument reads behind the call as it read before'; 0 by the template 'total and deterministic' (their statements: YtoafhoihigfllaaTotals.lean).
  GIVEN WITH THE SEED: the statements are not yours to turn. If you find one false, say at which input.
  Laid BY PROGRAM, IN A SANDBOX (cutbox-rows.mjs): the forced cells as the released guide's own fill.sh prints them over the translation 0f625fa8d3929b23… (all of the seat's roots in one cut). By AI agents, Wed Nov 11 2026. No macro, syntax, notation, axiom, sorry.
-/
import Derived.Test.YtoafhoihigfllaaChecked
import GoSem.Claim
import GoSem.ClaimJoined
import GoSem.ClaimMapViews
import Derived.JoinedTies
import Derived.KernelRfl
namespace Go.Proofs.Ytoafhoihigfllaa
/- THE CELL 'sum', in the pinned program and in every row, IS THE sha256 OF THE DUMP (.gsa) THAT YtoafhoihigfllaaProg.lean LOADS. Nothing in Lean hashes anything: it is a label: what it is worth is what the hold of that sum in a sandbox is worth. -/
noncomputable def Try.pinned : Pinned := { name := "ytoafhoihigfllaa", sum := "0f625fa8d3929b23489a445b200225aa6a25e6d7c4b153ca379f57599d72471e", checked := Try.checked }
namespace Rows
def none {H : Type} : Left H := { results := [], args := [] }

/-- 'drifterlaw10.TreatyShares': WHATEVER THE INPUT: true; the input reads as it did. -/
def treatySharesSpec : ChangeSpec := { name := "treatyShares", fn := fun _ => fun
  | [d] => { results := [.lit (.bool true)], args := [d] }
  | _ => none }
def treatySharesRow : OpenClaim := { program := "ytoafhoihigfllaa", sum := "0f625fa8d3929b23489a445b200225aa6a25e6d7c4b153ca379f57599d72471e", func := "drifter/drifterlaw10.TreatyShares", spec := "treatyShares", unfollowed := true, recurses := true, plainKeys := false, apart := false }
def TreatySharesSaid : Prop := treatySharesRow.holds Try.pinned (OpenSpec.ofChange treatySharesSpec)

/-- ITS FALSE NEIGHBOUR: 'it returns false'. Refute it at one input. -/
def treatySharesWrong : ChangeSpec := { name := "treatyShares", fn := fun _ => fun
  | [d] => { results := [.lit (.bool false)], args := [d] }
  | _ => none }
def TreatySharesWrongFalsely : Prop := treatySharesRow.holds Try.pinned (OpenSpec.ofChange treatySharesWrong)

/-- 'drifterlaw10.TreatySwaps': WHATEVER THE INPUT: true; the input reads as it did. -/
def treatySwapsSpec : ChangeSpec := { name := "treatySwaps", fn := fun _ => fun
  | [d] => { results := [.lit (.bool true)], args := [d] }
  | _ => none }
def treatySwapsRow : OpenClaim := { program := "ytoafhoihigfllaa", sum := "0f625fa8d3929b23489a445b200225aa6a25e6d7c4b153ca379f57599d72471e", func := "drifter/drifterlaw10.TreatySwaps", spec := "treatySwaps", unfollowed := true, recurses := true, plainKeys := false, apart := false }
def TreatySwapsSaid : Prop := treatySwapsRow.holds Try.pinned (OpenSpec.ofChange treatySwapsSpec)

/-- ITS FALSE NEIGHBOUR: 'it returns false'. Refute it at one input. -/
def treatySwapsWrong : ChangeSpec := { name := "treatySwaps", fn := fun _ => fun
  | [d] => { results := [.lit (.bool false)], args := [d] }
  | _ => none }
def TreatySwapsWrongFalsely : Prop := treatySwapsRow.holds Try.pinned (OpenSpec.ofChange treatySwapsWrong)

/-- 'drifterlaw10.TreatyBetter': WHATEVER THE INPUT: true; the input reads as it did. -/
def treatyBetterSpec : ChangeSpec := { name := "treatyBetter", fn := fun _ => fun
  | [d1, d2, d3] => { results := [.lit (.bool true)], args := [d1, d2, d3] }
  | _ => none }
def treatyBetterRow : OpenClaim := { program := "ytoafhoihigfllaa", sum := "0f625fa8d3929b23489a445b200225aa6a25e6d7c4b153ca379f57599d72471e", func := "drifter/drifterlaw10.TreatyBetter", spec := "treatyBetter", unfollowed := true, recurses := true, plainKeys := false, apart := false }
def TreatyBetterSaid : Prop := treatyBetterRow.holds Try.pinned (OpenSpec.ofChange treatyBetterSpec)

/-- ITS FALSE NEIGHBOUR: 'it returns false'. Refute it at one input. -/
def treatyBetterWrong : ChangeSpec := { name := "treatyBetter", fn := fun _ => fun
  | [d1, d2, d3] => { results := [.lit (.bool false)], args := [d1, d2, d3] }
  | _ => none }
def TreatyBetterWrongFalsely : Prop := treatyBetterRow.holds Try.pinned (OpenSpec.ofChange treatyBetterWrong)

/-- 'drifterlaw10.TreatyDeals': WHATEVER THE INPUT: true; the input reads as it did. -/
def treatyDealsSpec : ChangeSpec := { name := "treatyDeals", fn := fun _ => fun
  | [d1, d2] => { results := [.lit (.bool true)], args := [d1, d2] }
  | _ => none }
def treatyDealsRow : OpenClaim := { program := "ytoafhoihigfllaa", sum := "0f625fa8d3929b23489a445b200225aa6a25e6d7c4b153ca379f57599d72471e", func := "drifter/drifterlaw10.TreatyDeals", spec := "treatyDeals", unfollowed := true, recurses := true, plainKeys := false, apart := false }
def TreatyDealsSaid : Prop := treatyDealsRow.holds Try.pinned (OpenSpec.ofChange treatyDealsSpec)

/-- ITS FALSE NEIGHBOUR: 'it returns false'. Refute it at one input. -/
def treatyDealsWrong : ChangeSpec := { name := "treatyDeals", fn := fun _ => fun
  | [d1, d2] => { results := [.lit (.bool false)], args := [d1, d2] }
  | _ => none }
def TreatyDealsWrongFalsely : Prop := treatyDealsRow.holds Try.pinned (OpenSpec.ofChange treatyDealsWrong)

/-- 'drifterlaw10.TreatyEven': WHATEVER THE INPUT: true; the input reads as it did. -/
def treatyEvenSpec : ChangeSpec := { name := "treatyEven", fn := fun _ => fun
  | [d1, d2] => { results := [.lit (.bool true)], args := [d1, d2] }
  | _ => none }
def treatyEvenRow : OpenClaim := { program := "ytoafhoihigfllaa", sum := "0f625fa8d3929b23489a445b200225aa6a25e6d7c4b153ca379f57599d72471e", func := "drifter/drifterlaw10.TreatyEven", spec := "treatyEven", unfollowed := true, recurses := true, plainKeys := false, apart := false }
def TreatyEvenSaid : Prop := treatyEvenRow.holds Try.pinned (OpenSpec.ofChange treatyEvenSpec)

/-- ITS FALSE NEIGHBOUR: 'it returns false'. Refute it at one input. -/
def treatyEvenWrong : ChangeSpec := { name := "treatyEven", fn := fun _ => fun
  | [d1, d2] => { results := [.lit (.bool false)], args := [d1, d2] }
  | _ => none }
def TreatyEvenWrongFalsely : Prop := treatyEvenRow.holds Try.pinned (OpenSpec.ofChange treatyEvenWrong)

/-- 'drifterlaw10.TreatyCore': WHATEVER THE INPUT: true; the input reads as it did. -/
def treatyCoreSpec : ChangeSpec := { name := "treatyCore", fn := fun _ => fun
  | [d1, d2] => { results := [.lit (.bool true)], args := [d1, d2] }
  | _ => none }
def treatyCoreRow : OpenClaim := { program := "ytoafhoihigfllaa", sum := "0f625fa8d3929b23489a445b200225aa6a25e6d7c4b153ca379f57599d72471e", func := "drifter/drifterlaw10.TreatyCore", spec := "treatyCore", unfollowed := true, recurses := true, plainKeys := false, apart := false }
def TreatyCoreSaid : Prop := treatyCoreRow.holds Try.pinned (OpenSpec.ofChange treatyCoreSpec)

/-- ITS FALSE NEIGHBOUR: 'it returns false'. Refute it at one input. -/
def treatyCoreWrong : ChangeSpec := { name := "treatyCore", fn := fun _ => fun
  | [d1, d2] => { results := [.lit (.bool false)], args := [d1, d2] }
  | _ => none }
def TreatyCoreWrongFalsely : Prop := treatyCoreRow.holds Try.pinned (OpenSpec.ofChange treatyCoreWrong)

/-- 'drifterlaw10.TreatyOnly': WHATEVER THE INPUT: true; the input reads as it did. -/
def treatyOnlySpec : ChangeSpec := { name := "treatyOnly", fn := fun _ => fun
  | [d1, d2] => { results := [.lit (.bool true)], args := [d1, d2] }
  | _ => none }
def treatyOnlyRow : OpenClaim := { program := "ytoafhoihigfllaa", sum := "0f625fa8d3929b23489a445b200225aa6a25e6d7c4b153ca379f57599d72471e", func := "drifter/drifterlaw10.TreatyOnly", spec := "treatyOnly", unfollowed := true, recurses := true, plainKeys := false, apart := false }
def TreatyOnlySaid : Prop := treatyOnlyRow.holds Try.pinned (OpenSpec.ofChange treatyOnlySpec)

/-- ITS FALSE NEIGHBOUR: 'it returns false'. Refute it at one input. -/
def treatyOnlyWrong : ChangeSpec := { name := "treatyOnly", fn := fun _ => fun
  | [d1, d2] => { results := [.lit (.bool false)], args := [d1, d2] }
  | _ => none }
def TreatyOnlyWrongFalsely : Prop := treatyOnlyRow.holds Try.pinned (OpenSpec.ofChange treatyOnlyWrong)

/-- 'drifterlaw10.TreatyHonest': WHATEVER THE INPUT: true; the input reads as it did. -/
def treatyHonestSpec : ChangeSpec := { name := "treatyHonest", fn := fun _ => fun
  | [d1, d2, d3] => { results := [.lit (.bool true)], args := [d1, d2, d3] }
  | _ => none }
def treatyHonestRow : OpenClaim := { program := "ytoafhoihigfllaa", sum := "0f625fa8d3929b23489a445b200225aa6a25e6d7c4b153ca379f57599d72471e", func := "drifter/drifterlaw10.TreatyHonest", spec := "treatyHonest", unfollowed := true, recurses := true, plainKeys := false, apart := false }
def TreatyHonestSaid : Prop := treatyHonestRow.holds Try.pinned (OpenSpec.ofChange treatyHonestSpec)

/-- ITS FALSE NEIGHBOUR: 'it returns false'. Refute it at one input. -/
def treatyHonestWrong : ChangeSpec := { name := "treatyHonest", fn := fun _ => fun
  | [d1, d2, d3] => { results := [.lit (.bool false)], args := [d1, d2, d3] }
  | _ => none }
def TreatyHonestWrongFalsely : Prop := treatyHonestRow.holds Try.pinned (OpenSpec.ofChange treatyHonestWrong)

/-- 'drifterlaw10.TreatyStable': WHATEVER THE INPUT: true; the input reads as it did. -/
def treatyStableSpec : ChangeSpec := { name := "treatyStable", fn := fun _ => fun
  | [d1, d2] => { results := [.lit (.bool true)], args := [d1, d2] }
  | _ => none }
def treatyStableRow : OpenClaim := { program := "ytoafhoihigfllaa", sum := "0f625fa8d3929b23489a445b200225aa6a25e6d7c4b153ca379f57599d72471e", func := "drifter/drifterlaw10.TreatyStable", spec := "treatyStable", unfollowed := true, recurses := true, plainKeys := false, apart := false }
def TreatyStableSaid : Prop := treatyStableRow.holds Try.pinned (OpenSpec.ofChange treatyStableSpec)

/-- ITS FALSE NEIGHBOUR: 'it returns false'. Refute it at one input. -/
def treatyStableWrong : ChangeSpec := { name := "treatyStable", fn := fun _ => fun
  | [d1, d2] => { results := [.lit (.bool false)], args := [d1, d2] }
  | _ => none }
def TreatyStableWrongFalsely : Prop := treatyStableRow.holds Try.pinned (OpenSpec.ofChange treatyStableWrong)

/-- 'drifterlaw10.TreatyTruly': WHATEVER THE INPUT: true; the input reads as it did. -/
def treatyTrulySpec : ChangeSpec := { name := "treatyTruly", fn := fun _ => fun
  | [d1, d2, d3] => { results := [.lit (.bool true)], args := [d1, d2, d3] }
  | _ => none }
def treatyTrulyRow : OpenClaim := { program := "ytoafhoihigfllaa", sum := "0f625fa8d3929b23489a445b200225aa6a25e6d7c4b153ca379f57599d72471e", func := "drifter/drifterlaw10.TreatyTruly", spec := "treatyTruly", unfollowed := true, recurses := true, plainKeys := false, apart := false }
def TreatyTrulySaid : Prop := treatyTrulyRow.holds Try.pinned (OpenSpec.ofChange treatyTrulySpec)

/-- ITS FALSE NEIGHBOUR: 'it returns false'. Refute it at one input. -/
def treatyTrulyWrong : ChangeSpec := { name := "treatyTruly", fn := fun _ => fun
  | [d1, d2, d3] => { results := [.lit (.bool false)], args := [d1, d2, d3] }
  | _ => none }
def TreatyTrulyWrongFalsely : Prop := treatyTrulyRow.holds Try.pinned (OpenSpec.ofChange treatyTrulyWrong)

/-- 'drifterlaw10.TreatyClosed': WHATEVER THE INPUT: true; the input reads as it did. -/
def treatyClosedSpec : ChangeSpec := { name := "treatyClosed", fn := fun _ => fun
  | [d1, d2] => { results := [.lit (.bool true)], args := [d1, d2] }
  | _ => none }
def treatyClosedRow : OpenClaim := { program := "ytoafhoihigfllaa", sum := "0f625fa8d3929b23489a445b200225aa6a25e6d7c4b153ca379f57599d72471e", func := "drifter/drifterlaw10.TreatyClosed", spec := "treatyClosed", unfollowed := true, recurses := true, plainKeys := false, apart := false }
def TreatyClosedSaid : Prop := treatyClosedRow.holds Try.pinned (OpenSpec.ofChange treatyClosedSpec)

/-- ITS FALSE NEIGHBOUR: 'it returns false'. Refute it at one input. -/
def treatyClosedWrong : ChangeSpec := { name := "treatyClosed", fn := fun _ => fun
  | [d1, d2] => { results := [.lit (.bool false)], args := [d1, d2] }
  | _ => none }
def TreatyClosedWrongFalsely : Prop := treatyClosedRow.holds Try.pinned (OpenSpec.ofChange treatyClosedWrong)

/-- 'drifterlaw10.TreatyRoom': WHATEVER THE INPUT: true; the input reads as it did. -/
def treatyRoomSpec : ChangeSpec := { name := "treatyRoom", fn := fun _ => fun
  | [d1, d2] => { results := [.lit (.bool true)], args := [d1, d2] }
  | _ => none }
def treatyRoomRow : OpenClaim := { program := "ytoafhoihigfllaa", sum := "0f625fa8d3929b23489a445b200225aa6a25e6d7c4b153ca379f57599d72471e", func := "drifter/drifterlaw10.TreatyRoom", spec := "treatyRoom", unfollowed := true, recurses := true, plainKeys := false, apart := false }
def TreatyRoomSaid : Prop := treatyRoomRow.holds Try.pinned (OpenSpec.ofChange treatyRoomSpec)

/-- ITS FALSE NEIGHBOUR: 'it returns false'. Refute it at one input. -/
def treatyRoomWrong : ChangeSpec := { name := "treatyRoom", fn := fun _ => fun
  | [d1, d2] => { results := [.lit (.bool false)], args := [d1, d2] }
  | _ => none }
def TreatyRoomWrongFalsely : Prop := treatyRoomRow.holds Try.pinned (OpenSpec.ofChange treatyRoomWrong)

/- THE SECOND FORM. 'bulk': how many values and letters a reading holds, each counted each time it is reached (what is shared counts as often as it is met; a slice's spare places count too). A statement '..UptoSaid' is the law's where the arguments, and the package variables that the reading takes, are together of bulk at most 1048576: NARROWER than '..Said'. Prove '..Said' where nothing that the law and all that it calls make is longer than what came in: it says more and counts as full. Else prove '..UptoSaid'. A law counts once. -/
mutual
def uptoBulk {H : Type} : DataW H → Nat
  | .lit (.string bytes) => bytes.length + 1
  | .lit _ => 1
  | .nil => 1
  | .ptr d => uptoBulk d + 1
  | .slice elems spare => uptoBulkAll elems + uptoBulkAll spare + 1
  | .agg parts => uptoBulkAll parts + 1
  | .iface _ d => uptoBulk d + 1
  | .map entries => uptoBulkEntries entries + 1
  | .held _ => 1
def uptoBulkAll {H : Type} : List (DataW H) → Nat
  | [] => 0
  | d :: r => uptoBulk d + uptoBulkAll r
def uptoBulkEntries {H : Type} : List (Lit × DataW H) → Nat
  | [] => 0
  | x :: r => uptoBulkEntry x + uptoBulkEntries r
def uptoBulkEntry {H : Type} : Lit × DataW H → Nat
  | (.string bytes, d) => bytes.length + uptoBulk d + 1
  | (_, d) => uptoBulk d + 1
 end
def uptoSmall : (H : Type) → List (DataW H) → Bool := fun _ ds => decide (uptoBulkAll ds ≤ 1048576)
def OpenSpec.upto (s : _root_.Go.ChangeSpec) : _root_.Go.OpenSpec := { _root_.Go.OpenSpec.ofChange s with cond := some uptoSmall }

/-- 'drifterlaw10.TreatyShares', WHERE WHAT IT READS IS OF BULK AT MOST 1048576: true; the input reads as it did. -/
def treatySharesUptoRow : OpenClaim := { program := "ytoafhoihigfllaa", sum := "0f625fa8d3929b23489a445b200225aa6a25e6d7c4b153ca379f57599d72471e", func := "drifter/drifterlaw10.TreatyShares", spec := "treatyShares", unfollowed := true, recurses := true, plainKeys := false, apart := false, narrowed := true }
def TreatySharesUptoSaid : Prop := treatySharesUptoRow.holds Try.pinned (OpenSpec.upto treatySharesSpec)

/-- 'drifterlaw10.TreatySwaps', WHERE WHAT IT READS IS OF BULK AT MOST 1048576: true; the input reads as it did. -/
def treatySwapsUptoRow : OpenClaim := { program := "ytoafhoihigfllaa", sum := "0f625fa8d3929b23489a445b200225aa6a25e6d7c4b153ca379f57599d72471e", func := "drifter/drifterlaw10.TreatySwaps", spec := "treatySwaps", unfollowed := true, recurses := true, plainKeys := false, apart := false, narrowed := true }
def TreatySwapsUptoSaid : Prop := treatySwapsUptoRow.holds Try.pinned (OpenSpec.upto treatySwapsSpec)

/-- 'drifterlaw10.TreatyBetter', WHERE WHAT IT READS IS OF BULK AT MOST 1048576: true; the input reads as it did. -/
def treatyBetterUptoRow : OpenClaim := { program := "ytoafhoihigfllaa", sum := "0f625fa8d3929b23489a445b200225aa6a25e6d7c4b153ca379f57599d72471e", func := "drifter/drifterlaw10.TreatyBetter", spec := "treatyBetter", unfollowed := true, recurses := true, plainKeys := false, apart := false, narrowed := true }
def TreatyBetterUptoSaid : Prop := treatyBetterUptoRow.holds Try.pinned (OpenSpec.upto treatyBetterSpec)

/-- 'drifterlaw10.TreatyDeals', WHERE WHAT IT READS IS OF BULK AT MOST 1048576: true; the input reads as it did. -/
def treatyDealsUptoRow : OpenClaim := { program := "ytoafhoihigfllaa", sum := "0f625fa8d3929b23489a445b200225aa6a25e6d7c4b153ca379f57599d72471e", func := "drifter/drifterlaw10.TreatyDeals", spec := "treatyDeals", unfollowed := true, recurses := true, plainKeys := false, apart := false, narrowed := true }
def TreatyDealsUptoSaid : Prop := treatyDealsUptoRow.holds Try.pinned (OpenSpec.upto treatyDealsSpec)

/-- 'drifterlaw10.TreatyEven', WHERE WHAT IT READS IS OF BULK AT MOST 1048576: true; the input reads as it did. -/
def treatyEvenUptoRow : OpenClaim := { program := "ytoafhoihigfllaa", sum := "0f625fa8d3929b23489a445b200225aa6a25e6d7c4b153ca379f57599d72471e", func := "drifter/drifterlaw10.TreatyEven", spec := "treatyEven", unfollowed := true, recurses := true, plainKeys := false, apart := false, narrowed := true }
def TreatyEvenUptoSaid : Prop := treatyEvenUptoRow.holds Try.pinned (OpenSpec.upto treatyEvenSpec)

/-- 'drifterlaw10.TreatyCore', WHERE WHAT IT READS IS OF BULK AT MOST 1048576: true; the input reads as it did. -/
def treatyCoreUptoRow : OpenClaim := { program := "ytoafhoihigfllaa", sum := "0f625fa8d3929b23489a445b200225aa6a25e6d7c4b153ca379f57599d72471e", func := "drifter/drifterlaw10.TreatyCore", spec := "treatyCore", unfollowed := true, recurses := true, plainKeys := false, apart := false, narrowed := true }
def TreatyCoreUptoSaid : Prop := treatyCoreUptoRow.holds Try.pinned (OpenSpec.upto treatyCoreSpec)

/-- 'drifterlaw10.TreatyOnly', WHERE WHAT IT READS IS OF BULK AT MOST 1048576: true; the input reads as it did. -/
def treatyOnlyUptoRow : OpenClaim := { program := "ytoafhoihigfllaa", sum := "0f625fa8d3929b23489a445b200225aa6a25e6d7c4b153ca379f57599d72471e", func := "drifter/drifterlaw10.TreatyOnly", spec := "treatyOnly", unfollowed := true, recurses := true, plainKeys := false, apart := false, narrowed := true }
def TreatyOnlyUptoSaid : Prop := treatyOnlyUptoRow.holds Try.pinned (OpenSpec.upto treatyOnlySpec)

/-- 'drifterlaw10.TreatyHonest', WHERE WHAT IT READS IS OF BULK AT MOST 1048576: true; the input reads as it did. -/
def treatyHonestUptoRow : OpenClaim := { program := "ytoafhoihigfllaa", sum := "0f625fa8d3929b23489a445b200225aa6a25e6d7c4b153ca379f57599d72471e", func := "drifter/drifterlaw10.TreatyHonest", spec := "treatyHonest", unfollowed := true, recurses := true, plainKeys := false, apart := false, narrowed := true }
def TreatyHonestUptoSaid : Prop := treatyHonestUptoRow.holds Try.pinned (OpenSpec.upto treatyHonestSpec)

/-- 'drifterlaw10.TreatyStable', WHERE WHAT IT READS IS OF BULK AT MOST 1048576: true; the input reads as it did. -/
def treatyStableUptoRow : OpenClaim := { program := "ytoafhoihigfllaa", sum := "0f625fa8d3929b23489a445b200225aa6a25e6d7c4b153ca379f57599d72471e", func := "drifter/drifterlaw10.TreatyStable", spec := "treatyStable", unfollowed := true, recurses := true, plainKeys := false, apart := false, narrowed := true }
def TreatyStableUptoSaid : Prop := treatyStableUptoRow.holds Try.pinned (OpenSpec.upto treatyStableSpec)

/-- 'drifterlaw10.TreatyTruly', WHERE WHAT IT READS IS OF BULK AT MOST 1048576: true; the input reads as it did. -/
def treatyTrulyUptoRow : OpenClaim := { program := "ytoafhoihigfllaa", sum := "0f625fa8d3929b23489a445b200225aa6a25e6d7c4b153ca379f57599d72471e", func := "drifter/drifterlaw10.TreatyTruly", spec := "treatyTruly", unfollowed := true, recurses := true, plainKeys := false, apart := false, narrowed := true }
def TreatyTrulyUptoSaid : Prop := treatyTrulyUptoRow.holds Try.pinned (OpenSpec.upto treatyTrulySpec)

/-- 'drifterlaw10.TreatyClosed', WHERE WHAT IT READS IS OF BULK AT MOST 1048576: true; the input reads as it did. -/
def treatyClosedUptoRow : OpenClaim := { program := "ytoafhoihigfllaa", sum := "0f625fa8d3929b23489a445b200225aa6a25e6d7c4b153ca379f57599d72471e", func := "drifter/drifterlaw10.TreatyClosed", spec := "treatyClosed", unfollowed := true, recurses := true, plainKeys := false, apart := false, narrowed := true }
def TreatyClosedUptoSaid : Prop := treatyClosedUptoRow.holds Try.pinned (OpenSpec.upto treatyClosedSpec)

/-- 'drifterlaw10.TreatyRoom', WHERE WHAT IT READS IS OF BULK AT MOST 1048576: true; the input reads as it did. -/
def treatyRoomUptoRow : OpenClaim := { program := "ytoafhoihigfllaa", sum := "0f625fa8d3929b23489a445b200225aa6a25e6d7c4b153ca379f57599d72471e", func := "drifter/drifterlaw10.TreatyRoom", spec := "treatyRoom", unfollowed := true, recurses := true, plainKeys := false, apart := false, narrowed := true }
def TreatyRoomUptoSaid : Prop := treatyRoomUptoRow.holds Try.pinned (OpenSpec.upto treatyRoomSpec)

end Rows
end Go.Proofs.Ytoafhoihigfllaa
