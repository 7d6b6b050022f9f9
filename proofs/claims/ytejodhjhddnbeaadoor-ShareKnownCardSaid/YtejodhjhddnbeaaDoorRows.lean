/-
  NARROWER THAN 'FOR EVERY INPUT', by the rows' own cells (each row's printed sentence says how): ShareDivides: laid · ShareClaims: laid · ShareDues: laid · ShareFair: laid · ShareTurned: laid · SharePenny: laid · ShareOrder: laid · ShareLent: laid · ShareGrouped: laid · ShareCleared: laid · ShareSpoilt: laid · ShareKnown: laid.
  DERIVED. THE GIVEN ROWS OF THIS SEAT. 12 by the template 'for every input the law returns true; each argument reads behind the call as it read before'; 0 by the template 'total and deterministic' (their statements: YtejodhjhddnbeaaDoorTotals.lean).
  GIVEN WITH THE SEED: the statements are not yours to turn. If you find one false, say at which input.
  Laid BY PROGRAM, IN A SANDBOX (cutbox-rows.mjs): the forced cells as the released guide's own fill.sh prints them over the translation edbaa4d59ce55999… (all of the seat's roots in one cut). By AI agents, Wed Nov 11 2026. No macro, syntax, notation, axiom, sorry.
-/
import Derived.Test.YtejodhjhddnbeaaDoorChecked
import GoSem.Claim
import GoSem.ClaimJoined
import GoSem.ClaimMapViews
import Derived.JoinedTies
import Derived.KernelRfl
namespace Go.Proofs.YtejodhjhddnbeaaDoor
/- THE CELL 'sum', in the pinned program and in every row, IS THE sha256 OF THE DUMP (.gsa) THAT YtejodhjhddnbeaaDoorProg.lean LOADS. Nothing in Lean hashes anything: it is a label: what it is worth is what the hold of that sum in a sandbox is worth. -/
noncomputable def Tryd.pinned : Pinned := { name := "ytejodhjhddnbeaadoor", sum := "edbaa4d59ce559992dbb39d7777c0f24c7d11a49da69f7cc84cc0c1538439168", checked := Tryd.checked }
namespace Rows
def none {H : Type} : Left H := { results := [], args := [] }

/- WHAT THE LISTED PACKAGE-LEVEL VARIABLES READ AS WHEN THE CALL BEGINS. Each datum BY PROGRAM (the guide's laid-datum.mjs) off the statement by which the dump's own 'gosem.cut.vars' lays the variable. In a bare row this is a premise. The card (YtejodhjhddnbeaaDoorCards.lean) ties it to the program's text. -/
def laid_drifter_share_parts {H : Type} : DataW H := .iface "func table" (.agg [.agg [.lit (.string [98, 111, 97, 116]), .iface "func" (.lit (.string [40, 100, 114, 105, 102, 116, 101, 114, 47, 115, 104, 97, 114, 101, 46, 118, 111, 121, 97, 103, 101, 41, 46, 111, 119, 110, 101, 114, 115]))], .agg [.lit (.string [110, 101, 116, 115]), .iface "func" (.lit (.string [40, 100, 114, 105, 102, 116, 101, 114, 47, 115, 104, 97, 114, 101, 46, 118, 111, 121, 97, 103, 101, 41, 46, 108, 101, 110, 100, 101, 114, 115]))], .agg [.lit (.string [99, 114, 101, 119]), .iface "func" (.lit (.string [40, 100, 114, 105, 102, 116, 101, 114, 47, 115, 104, 97, 114, 101, 46, 118, 111, 121, 97, 103, 101, 41, 46, 104, 97, 110, 100, 115]))]])

/-- 'drifterlaw03.ShareDivides': WHATEVER THE INPUT: true; the input reads as it did. -/
def shareDividesSpec : ChangeSpec := { name := "shareDivides", fn := fun _ => fun
  | [d1, d2] => { results := [.lit (.bool true)], args := [d1, d2] }
  | _ => none }
def shareDividesRow : OpenClaim := { program := "ytejodhjhddnbeaadoor", sum := "edbaa4d59ce559992dbb39d7777c0f24c7d11a49da69f7cc84cc0c1538439168", func := "drifter/drifterlaw03.ShareDivides", spec := "shareDivides", inPlace := ["internal/bytealg.abigen_runtime_cmpstring"], unfollowed := true, recurses := true, named := ["drifter/share.parts"], apart := false, laid := [("drifter/share.parts", laid_drifter_share_parts)] }
def ShareDividesSaid : Prop := shareDividesRow.holds Tryd.pinned (OpenSpec.ofChange shareDividesSpec)

/-- ITS FALSE NEIGHBOUR: 'it returns false'. Refute it at one input. -/
def shareDividesWrong : ChangeSpec := { name := "shareDivides", fn := fun _ => fun
  | [d1, d2] => { results := [.lit (.bool false)], args := [d1, d2] }
  | _ => none }
def ShareDividesWrongFalsely : Prop := shareDividesRow.holds Tryd.pinned (OpenSpec.ofChange shareDividesWrong)

/-- 'drifterlaw03.ShareClaims': WHATEVER THE INPUT: true; the input reads as it did. -/
def shareClaimsSpec : ChangeSpec := { name := "shareClaims", fn := fun _ => fun
  | [d] => { results := [.lit (.bool true)], args := [d] }
  | _ => none }
def shareClaimsRow : OpenClaim := { program := "ytejodhjhddnbeaadoor", sum := "edbaa4d59ce559992dbb39d7777c0f24c7d11a49da69f7cc84cc0c1538439168", func := "drifter/drifterlaw03.ShareClaims", spec := "shareClaims", inPlace := ["internal/bytealg.abigen_runtime_cmpstring"], unfollowed := true, recurses := true, named := ["drifter/share.parts"], apart := false, laid := [("drifter/share.parts", laid_drifter_share_parts)] }
def ShareClaimsSaid : Prop := shareClaimsRow.holds Tryd.pinned (OpenSpec.ofChange shareClaimsSpec)

/-- ITS FALSE NEIGHBOUR: 'it returns false'. Refute it at one input. -/
def shareClaimsWrong : ChangeSpec := { name := "shareClaims", fn := fun _ => fun
  | [d] => { results := [.lit (.bool false)], args := [d] }
  | _ => none }
def ShareClaimsWrongFalsely : Prop := shareClaimsRow.holds Tryd.pinned (OpenSpec.ofChange shareClaimsWrong)

/-- 'drifterlaw03.ShareDues': WHATEVER THE INPUT: true; the input reads as it did. -/
def shareDuesSpec : ChangeSpec := { name := "shareDues", fn := fun _ => fun
  | [d] => { results := [.lit (.bool true)], args := [d] }
  | _ => none }
def shareDuesRow : OpenClaim := { program := "ytejodhjhddnbeaadoor", sum := "edbaa4d59ce559992dbb39d7777c0f24c7d11a49da69f7cc84cc0c1538439168", func := "drifter/drifterlaw03.ShareDues", spec := "shareDues", inPlace := ["internal/bytealg.abigen_runtime_cmpstring"], unfollowed := true, recurses := true, named := ["drifter/share.parts"], apart := false, laid := [("drifter/share.parts", laid_drifter_share_parts)] }
def ShareDuesSaid : Prop := shareDuesRow.holds Tryd.pinned (OpenSpec.ofChange shareDuesSpec)

/-- ITS FALSE NEIGHBOUR: 'it returns false'. Refute it at one input. -/
def shareDuesWrong : ChangeSpec := { name := "shareDues", fn := fun _ => fun
  | [d] => { results := [.lit (.bool false)], args := [d] }
  | _ => none }
def ShareDuesWrongFalsely : Prop := shareDuesRow.holds Tryd.pinned (OpenSpec.ofChange shareDuesWrong)

/-- 'drifterlaw03.ShareFair': WHATEVER THE INPUT: true; the input reads as it did. -/
def shareFairSpec : ChangeSpec := { name := "shareFair", fn := fun _ => fun
  | [d1, d2] => { results := [.lit (.bool true)], args := [d1, d2] }
  | _ => none }
def shareFairRow : OpenClaim := { program := "ytejodhjhddnbeaadoor", sum := "edbaa4d59ce559992dbb39d7777c0f24c7d11a49da69f7cc84cc0c1538439168", func := "drifter/drifterlaw03.ShareFair", spec := "shareFair", inPlace := ["internal/bytealg.abigen_runtime_cmpstring"], unfollowed := true, recurses := true, named := ["drifter/share.parts"], apart := false, laid := [("drifter/share.parts", laid_drifter_share_parts)] }
def ShareFairSaid : Prop := shareFairRow.holds Tryd.pinned (OpenSpec.ofChange shareFairSpec)

/-- ITS FALSE NEIGHBOUR: 'it returns false'. Refute it at one input. -/
def shareFairWrong : ChangeSpec := { name := "shareFair", fn := fun _ => fun
  | [d1, d2] => { results := [.lit (.bool false)], args := [d1, d2] }
  | _ => none }
def ShareFairWrongFalsely : Prop := shareFairRow.holds Tryd.pinned (OpenSpec.ofChange shareFairWrong)

/-- 'drifterlaw03.ShareTurned': WHATEVER THE INPUT: true; the input reads as it did. -/
def shareTurnedSpec : ChangeSpec := { name := "shareTurned", fn := fun _ => fun
  | [d1, d2, d3] => { results := [.lit (.bool true)], args := [d1, d2, d3] }
  | _ => none }
def shareTurnedRow : OpenClaim := { program := "ytejodhjhddnbeaadoor", sum := "edbaa4d59ce559992dbb39d7777c0f24c7d11a49da69f7cc84cc0c1538439168", func := "drifter/drifterlaw03.ShareTurned", spec := "shareTurned", inPlace := ["internal/bytealg.abigen_runtime_cmpstring"], unfollowed := true, recurses := true, named := ["drifter/share.parts"], apart := false, laid := [("drifter/share.parts", laid_drifter_share_parts)] }
def ShareTurnedSaid : Prop := shareTurnedRow.holds Tryd.pinned (OpenSpec.ofChange shareTurnedSpec)

/-- ITS FALSE NEIGHBOUR: 'it returns false'. Refute it at one input. -/
def shareTurnedWrong : ChangeSpec := { name := "shareTurned", fn := fun _ => fun
  | [d1, d2, d3] => { results := [.lit (.bool false)], args := [d1, d2, d3] }
  | _ => none }
def ShareTurnedWrongFalsely : Prop := shareTurnedRow.holds Tryd.pinned (OpenSpec.ofChange shareTurnedWrong)

/-- 'drifterlaw03.SharePenny': WHATEVER THE INPUT: true; the input reads as it did. -/
def sharePennySpec : ChangeSpec := { name := "sharePenny", fn := fun _ => fun
  | [d] => { results := [.lit (.bool true)], args := [d] }
  | _ => none }
def sharePennyRow : OpenClaim := { program := "ytejodhjhddnbeaadoor", sum := "edbaa4d59ce559992dbb39d7777c0f24c7d11a49da69f7cc84cc0c1538439168", func := "drifter/drifterlaw03.SharePenny", spec := "sharePenny", inPlace := ["internal/bytealg.abigen_runtime_cmpstring"], unfollowed := true, recurses := true, named := ["drifter/share.parts"], apart := false, laid := [("drifter/share.parts", laid_drifter_share_parts)] }
def SharePennySaid : Prop := sharePennyRow.holds Tryd.pinned (OpenSpec.ofChange sharePennySpec)

/-- ITS FALSE NEIGHBOUR: 'it returns false'. Refute it at one input. -/
def sharePennyWrong : ChangeSpec := { name := "sharePenny", fn := fun _ => fun
  | [d] => { results := [.lit (.bool false)], args := [d] }
  | _ => none }
def SharePennyWrongFalsely : Prop := sharePennyRow.holds Tryd.pinned (OpenSpec.ofChange sharePennyWrong)

/-- 'drifterlaw03.ShareOrder': WHATEVER THE INPUT: true; the input reads as it did. -/
def shareOrderSpec : ChangeSpec := { name := "shareOrder", fn := fun _ => fun
  | [d1, d2] => { results := [.lit (.bool true)], args := [d1, d2] }
  | _ => none }
def shareOrderRow : OpenClaim := { program := "ytejodhjhddnbeaadoor", sum := "edbaa4d59ce559992dbb39d7777c0f24c7d11a49da69f7cc84cc0c1538439168", func := "drifter/drifterlaw03.ShareOrder", spec := "shareOrder", inPlace := ["internal/bytealg.abigen_runtime_cmpstring"], unfollowed := true, recurses := true, named := ["drifter/share.parts"], apart := false, laid := [("drifter/share.parts", laid_drifter_share_parts)] }
def ShareOrderSaid : Prop := shareOrderRow.holds Tryd.pinned (OpenSpec.ofChange shareOrderSpec)

/-- ITS FALSE NEIGHBOUR: 'it returns false'. Refute it at one input. -/
def shareOrderWrong : ChangeSpec := { name := "shareOrder", fn := fun _ => fun
  | [d1, d2] => { results := [.lit (.bool false)], args := [d1, d2] }
  | _ => none }
def ShareOrderWrongFalsely : Prop := shareOrderRow.holds Tryd.pinned (OpenSpec.ofChange shareOrderWrong)

/-- 'drifterlaw03.ShareLent': WHATEVER THE INPUT: true; the input reads as it did. -/
def shareLentSpec : ChangeSpec := { name := "shareLent", fn := fun _ => fun
  | [d1, d2] => { results := [.lit (.bool true)], args := [d1, d2] }
  | _ => none }
def shareLentRow : OpenClaim := { program := "ytejodhjhddnbeaadoor", sum := "edbaa4d59ce559992dbb39d7777c0f24c7d11a49da69f7cc84cc0c1538439168", func := "drifter/drifterlaw03.ShareLent", spec := "shareLent", inPlace := ["internal/bytealg.abigen_runtime_cmpstring"], unfollowed := true, recurses := true, named := ["drifter/share.parts"], apart := false, laid := [("drifter/share.parts", laid_drifter_share_parts)] }
def ShareLentSaid : Prop := shareLentRow.holds Tryd.pinned (OpenSpec.ofChange shareLentSpec)

/-- ITS FALSE NEIGHBOUR: 'it returns false'. Refute it at one input. -/
def shareLentWrong : ChangeSpec := { name := "shareLent", fn := fun _ => fun
  | [d1, d2] => { results := [.lit (.bool false)], args := [d1, d2] }
  | _ => none }
def ShareLentWrongFalsely : Prop := shareLentRow.holds Tryd.pinned (OpenSpec.ofChange shareLentWrong)

/-- 'drifterlaw03.ShareGrouped': WHATEVER THE INPUT: true; the input reads as it did. -/
def shareGroupedSpec : ChangeSpec := { name := "shareGrouped", fn := fun _ => fun
  | [d1, d2] => { results := [.lit (.bool true)], args := [d1, d2] }
  | _ => none }
def shareGroupedRow : OpenClaim := { program := "ytejodhjhddnbeaadoor", sum := "edbaa4d59ce559992dbb39d7777c0f24c7d11a49da69f7cc84cc0c1538439168", func := "drifter/drifterlaw03.ShareGrouped", spec := "shareGrouped", inPlace := ["internal/bytealg.abigen_runtime_cmpstring"], unfollowed := true, recurses := true, named := ["drifter/share.parts"], apart := false, laid := [("drifter/share.parts", laid_drifter_share_parts)] }
def ShareGroupedSaid : Prop := shareGroupedRow.holds Tryd.pinned (OpenSpec.ofChange shareGroupedSpec)

/-- ITS FALSE NEIGHBOUR: 'it returns false'. Refute it at one input. -/
def shareGroupedWrong : ChangeSpec := { name := "shareGrouped", fn := fun _ => fun
  | [d1, d2] => { results := [.lit (.bool false)], args := [d1, d2] }
  | _ => none }
def ShareGroupedWrongFalsely : Prop := shareGroupedRow.holds Tryd.pinned (OpenSpec.ofChange shareGroupedWrong)

/-- 'drifterlaw03.ShareCleared': WHATEVER THE INPUT: true; the input reads as it did. -/
def shareClearedSpec : ChangeSpec := { name := "shareCleared", fn := fun _ => fun
  | [d1, d2] => { results := [.lit (.bool true)], args := [d1, d2] }
  | _ => none }
def shareClearedRow : OpenClaim := { program := "ytejodhjhddnbeaadoor", sum := "edbaa4d59ce559992dbb39d7777c0f24c7d11a49da69f7cc84cc0c1538439168", func := "drifter/drifterlaw03.ShareCleared", spec := "shareCleared", inPlace := ["internal/bytealg.abigen_runtime_cmpstring"], unfollowed := true, recurses := true, named := ["drifter/share.parts"], apart := false, laid := [("drifter/share.parts", laid_drifter_share_parts)] }
def ShareClearedSaid : Prop := shareClearedRow.holds Tryd.pinned (OpenSpec.ofChange shareClearedSpec)

/-- ITS FALSE NEIGHBOUR: 'it returns false'. Refute it at one input. -/
def shareClearedWrong : ChangeSpec := { name := "shareCleared", fn := fun _ => fun
  | [d1, d2] => { results := [.lit (.bool false)], args := [d1, d2] }
  | _ => none }
def ShareClearedWrongFalsely : Prop := shareClearedRow.holds Tryd.pinned (OpenSpec.ofChange shareClearedWrong)

/-- 'drifterlaw03.ShareSpoilt': WHATEVER THE INPUT: true; the input reads as it did. -/
def shareSpoiltSpec : ChangeSpec := { name := "shareSpoilt", fn := fun _ => fun
  | [d1, d2] => { results := [.lit (.bool true)], args := [d1, d2] }
  | _ => none }
def shareSpoiltRow : OpenClaim := { program := "ytejodhjhddnbeaadoor", sum := "edbaa4d59ce559992dbb39d7777c0f24c7d11a49da69f7cc84cc0c1538439168", func := "drifter/drifterlaw03.ShareSpoilt", spec := "shareSpoilt", inPlace := ["internal/bytealg.abigen_runtime_cmpstring"], unfollowed := true, recurses := true, named := ["drifter/share.parts"], apart := false, laid := [("drifter/share.parts", laid_drifter_share_parts)] }
def ShareSpoiltSaid : Prop := shareSpoiltRow.holds Tryd.pinned (OpenSpec.ofChange shareSpoiltSpec)

/-- ITS FALSE NEIGHBOUR: 'it returns false'. Refute it at one input. -/
def shareSpoiltWrong : ChangeSpec := { name := "shareSpoilt", fn := fun _ => fun
  | [d1, d2] => { results := [.lit (.bool false)], args := [d1, d2] }
  | _ => none }
def ShareSpoiltWrongFalsely : Prop := shareSpoiltRow.holds Tryd.pinned (OpenSpec.ofChange shareSpoiltWrong)

/-- 'drifterlaw03.ShareKnown': WHATEVER THE INPUT: true; the input reads as it did. -/
def shareKnownSpec : ChangeSpec := { name := "shareKnown", fn := fun _ => fun
  | [] => { results := [.lit (.bool true)], args := [] }
  | _ => none }
def shareKnownRow : OpenClaim := { program := "ytejodhjhddnbeaadoor", sum := "edbaa4d59ce559992dbb39d7777c0f24c7d11a49da69f7cc84cc0c1538439168", func := "drifter/drifterlaw03.ShareKnown", spec := "shareKnown", inPlace := ["internal/bytealg.abigen_runtime_cmpstring"], unfollowed := true, recurses := true, named := ["drifter/share.parts"], apart := false, laid := [("drifter/share.parts", laid_drifter_share_parts)] }
def ShareKnownSaid : Prop := shareKnownRow.holds Tryd.pinned (OpenSpec.ofChange shareKnownSpec)

/-- ITS FALSE NEIGHBOUR: 'it returns false'. Refute it at one input. -/
def shareKnownWrong : ChangeSpec := { name := "shareKnown", fn := fun _ => fun
  | [] => { results := [.lit (.bool false)], args := [] }
  | _ => none }
def ShareKnownWrongFalsely : Prop := shareKnownRow.holds Tryd.pinned (OpenSpec.ofChange shareKnownWrong)

/- THE SECOND FORM. 'bulk': how many values and letters a reading holds, each counted each time it is reached (what is shared counts as often as it is met; a slice's spare places count too). A statement '..UptoSaid' is the law's where the arguments, and the package variables that the reading takes, are together of bulk at most 1048576: NARROWER than '..Said'. Prove '..Said' where nothing that the law and all that it calls make is longer than what came in: it says more and counts as full. Else prove '..UptoSaid'. A law counts once. -/
mutual
def uptoBulk {H : Type} : DataW H → Nat
  | .lit (.string bytes) => bytes.length + 1
  | .lit _ => 1
  | .nil => 1
  | .ptr d => uptoBulk d + 1
  | .slice elems spare => uptoBulkAll elems + uptoBulkAll spare + 1
  | .agg parts => uptoBulkAll parts + 1
  | .iface _ d => uptoBulk d + 1
  | .map entries => uptoBulkEntries entries + 1
  | .held _ => 1
def uptoBulkAll {H : Type} : List (DataW H) → Nat
  | [] => 0
  | d :: r => uptoBulk d + uptoBulkAll r
def uptoBulkEntries {H : Type} : List (Lit × DataW H) → Nat
  | [] => 0
  | x :: r => uptoBulkEntry x + uptoBulkEntries r
def uptoBulkEntry {H : Type} : Lit × DataW H → Nat
  | (.string bytes, d) => bytes.length + uptoBulk d + 1
  | (_, d) => uptoBulk d + 1
 end
def uptoSmall : (H : Type) → List (DataW H) → Bool := fun _ ds => decide (uptoBulkAll ds ≤ 1048576)
def OpenSpec.upto (s : _root_.Go.ChangeSpec) : _root_.Go.OpenSpec := { _root_.Go.OpenSpec.ofChange s with cond := some uptoSmall }

/-- 'drifterlaw03.ShareDivides', WHERE WHAT IT READS IS OF BULK AT MOST 1048576: true; the input reads as it did. -/
def shareDividesUptoRow : OpenClaim := { program := "ytejodhjhddnbeaadoor", sum := "edbaa4d59ce559992dbb39d7777c0f24c7d11a49da69f7cc84cc0c1538439168", func := "drifter/drifterlaw03.ShareDivides", spec := "shareDivides", inPlace := ["internal/bytealg.abigen_runtime_cmpstring"], unfollowed := true, recurses := true, named := ["drifter/share.parts"], apart := false, laid := [("drifter/share.parts", laid_drifter_share_parts)], narrowed := true }
def ShareDividesUptoSaid : Prop := shareDividesUptoRow.holds Tryd.pinned (OpenSpec.upto shareDividesSpec)

/-- 'drifterlaw03.ShareClaims', WHERE WHAT IT READS IS OF BULK AT MOST 1048576: true; the input reads as it did. -/
def shareClaimsUptoRow : OpenClaim := { program := "ytejodhjhddnbeaadoor", sum := "edbaa4d59ce559992dbb39d7777c0f24c7d11a49da69f7cc84cc0c1538439168", func := "drifter/drifterlaw03.ShareClaims", spec := "shareClaims", inPlace := ["internal/bytealg.abigen_runtime_cmpstring"], unfollowed := true, recurses := true, named := ["drifter/share.parts"], apart := false, laid := [("drifter/share.parts", laid_drifter_share_parts)], narrowed := true }
def ShareClaimsUptoSaid : Prop := shareClaimsUptoRow.holds Tryd.pinned (OpenSpec.upto shareClaimsSpec)

/-- 'drifterlaw03.ShareDues', WHERE WHAT IT READS IS OF BULK AT MOST 1048576: true; the input reads as it did. -/
def shareDuesUptoRow : OpenClaim := { program := "ytejodhjhddnbeaadoor", sum := "edbaa4d59ce559992dbb39d7777c0f24c7d11a49da69f7cc84cc0c1538439168", func := "drifter/drifterlaw03.ShareDues", spec := "shareDues", inPlace := ["internal/bytealg.abigen_runtime_cmpstring"], unfollowed := true, recurses := true, named := ["drifter/share.parts"], apart := false, laid := [("drifter/share.parts", laid_drifter_share_parts)], narrowed := true }
def ShareDuesUptoSaid : Prop := shareDuesUptoRow.holds Tryd.pinned (OpenSpec.upto shareDuesSpec)

/-- 'drifterlaw03.ShareFair', WHERE WHAT IT READS IS OF BULK AT MOST 1048576: true; the input reads as it did. -/
def shareFairUptoRow : OpenClaim := { program := "ytejodhjhddnbeaadoor", sum := "edbaa4d59ce559992dbb39d7777c0f24c7d11a49da69f7cc84cc0c1538439168", func := "drifter/drifterlaw03.ShareFair", spec := "shareFair", inPlace := ["internal/bytealg.abigen_runtime_cmpstring"], unfollowed := true, recurses := true, named := ["drifter/share.parts"], apart := false, laid := [("drifter/share.parts", laid_drifter_share_parts)], narrowed := true }
def ShareFairUptoSaid : Prop := shareFairUptoRow.holds Tryd.pinned (OpenSpec.upto shareFairSpec)

/-- 'drifterlaw03.ShareTurned', WHERE WHAT IT READS IS OF BULK AT MOST 1048576: true; the input reads as it did. -/
def shareTurnedUptoRow : OpenClaim := { program := "ytejodhjhddnbeaadoor", sum := "edbaa4d59ce559992dbb39d7777c0f24c7d11a49da69f7cc84cc0c1538439168", func := "drifter/drifterlaw03.ShareTurned", spec := "shareTurned", inPlace := ["internal/bytealg.abigen_runtime_cmpstring"], unfollowed := true, recurses := true, named := ["drifter/share.parts"], apart := false, laid := [("drifter/share.parts", laid_drifter_share_parts)], narrowed := true }
def ShareTurnedUptoSaid : Prop := shareTurnedUptoRow.holds Tryd.pinned (OpenSpec.upto shareTurnedSpec)

/-- 'drifterlaw03.SharePenny', WHERE WHAT IT READS IS OF BULK AT MOST 1048576: true; the input reads as it did. -/
def sharePennyUptoRow : OpenClaim := { program := "ytejodhjhddnbeaadoor", sum := "edbaa4d59ce559992dbb39d7777c0f24c7d11a49da69f7cc84cc0c1538439168", func := "drifter/drifterlaw03.SharePenny", spec := "sharePenny", inPlace := ["internal/bytealg.abigen_runtime_cmpstring"], unfollowed := true, recurses := true, named := ["drifter/share.parts"], apart := false, laid := [("drifter/share.parts", laid_drifter_share_parts)], narrowed := true }
def SharePennyUptoSaid : Prop := sharePennyUptoRow.holds Tryd.pinned (OpenSpec.upto sharePennySpec)

/-- 'drifterlaw03.ShareOrder', WHERE WHAT IT READS IS OF BULK AT MOST 1048576: true; the input reads as it did. -/
def shareOrderUptoRow : OpenClaim := { program := "ytejodhjhddnbeaadoor", sum := "edbaa4d59ce559992dbb39d7777c0f24c7d11a49da69f7cc84cc0c1538439168", func := "drifter/drifterlaw03.ShareOrder", spec := "shareOrder", inPlace := ["internal/bytealg.abigen_runtime_cmpstring"], unfollowed := true, recurses := true, named := ["drifter/share.parts"], apart := false, laid := [("drifter/share.parts", laid_drifter_share_parts)], narrowed := true }
def ShareOrderUptoSaid : Prop := shareOrderUptoRow.holds Tryd.pinned (OpenSpec.upto shareOrderSpec)

/-- 'drifterlaw03.ShareLent', WHERE WHAT IT READS IS OF BULK AT MOST 1048576: true; the input reads as it did. -/
def shareLentUptoRow : OpenClaim := { program := "ytejodhjhddnbeaadoor", sum := "edbaa4d59ce559992dbb39d7777c0f24c7d11a49da69f7cc84cc0c1538439168", func := "drifter/drifterlaw03.ShareLent", spec := "shareLent", inPlace := ["internal/bytealg.abigen_runtime_cmpstring"], unfollowed := true, recurses := true, named := ["drifter/share.parts"], apart := false, laid := [("drifter/share.parts", laid_drifter_share_parts)], narrowed := true }
def ShareLentUptoSaid : Prop := shareLentUptoRow.holds Tryd.pinned (OpenSpec.upto shareLentSpec)

/-- 'drifterlaw03.ShareGrouped', WHERE WHAT IT READS IS OF BULK AT MOST 1048576: true; the input reads as it did. -/
def shareGroupedUptoRow : OpenClaim := { program := "ytejodhjhddnbeaadoor", sum := "edbaa4d59ce559992dbb39d7777c0f24c7d11a49da69f7cc84cc0c1538439168", func := "drifter/drifterlaw03.ShareGrouped", spec := "shareGrouped", inPlace := ["internal/bytealg.abigen_runtime_cmpstring"], unfollowed := true, recurses := true, named := ["drifter/share.parts"], apart := false, laid := [("drifter/share.parts", laid_drifter_share_parts)], narrowed := true }
def ShareGroupedUptoSaid : Prop := shareGroupedUptoRow.holds Tryd.pinned (OpenSpec.upto shareGroupedSpec)

/-- 'drifterlaw03.ShareCleared', WHERE WHAT IT READS IS OF BULK AT MOST 1048576: true; the input reads as it did. -/
def shareClearedUptoRow : OpenClaim := { program := "ytejodhjhddnbeaadoor", sum := "edbaa4d59ce559992dbb39d7777c0f24c7d11a49da69f7cc84cc0c1538439168", func := "drifter/drifterlaw03.ShareCleared", spec := "shareCleared", inPlace := ["internal/bytealg.abigen_runtime_cmpstring"], unfollowed := true, recurses := true, named := ["drifter/share.parts"], apart := false, laid := [("drifter/share.parts", laid_drifter_share_parts)], narrowed := true }
def ShareClearedUptoSaid : Prop := shareClearedUptoRow.holds Tryd.pinned (OpenSpec.upto shareClearedSpec)

/-- 'drifterlaw03.ShareSpoilt', WHERE WHAT IT READS IS OF BULK AT MOST 1048576: true; the input reads as it did. -/
def shareSpoiltUptoRow : OpenClaim := { program := "ytejodhjhddnbeaadoor", sum := "edbaa4d59ce559992dbb39d7777c0f24c7d11a49da69f7cc84cc0c1538439168", func := "drifter/drifterlaw03.ShareSpoilt", spec := "shareSpoilt", inPlace := ["internal/bytealg.abigen_runtime_cmpstring"], unfollowed := true, recurses := true, named := ["drifter/share.parts"], apart := false, laid := [("drifter/share.parts", laid_drifter_share_parts)], narrowed := true }
def ShareSpoiltUptoSaid : Prop := shareSpoiltUptoRow.holds Tryd.pinned (OpenSpec.upto shareSpoiltSpec)

/-- 'drifterlaw03.ShareKnown', WHERE WHAT IT READS IS OF BULK AT MOST 1048576: true; the input reads as it did. -/
def shareKnownUptoRow : OpenClaim := { program := "ytejodhjhddnbeaadoor", sum := "edbaa4d59ce559992dbb39d7777c0f24c7d11a49da69f7cc84cc0c1538439168", func := "drifter/drifterlaw03.ShareKnown", spec := "shareKnown", inPlace := ["internal/bytealg.abigen_runtime_cmpstring"], unfollowed := true, recurses := true, named := ["drifter/share.parts"], apart := false, laid := [("drifter/share.parts", laid_drifter_share_parts)], narrowed := true }
def ShareKnownUptoSaid : Prop := shareKnownUptoRow.holds Tryd.pinned (OpenSpec.upto shareKnownSpec)

end Rows
end Go.Proofs.YtejodhjhddnbeaaDoor
