/-
  DERIVED. GIVEN WITH THE SEED: THE CARDS: each row of YtejodhjhddnbeaaDoorRows.lean that lists a variable, with what it lists TIED to the program's text (the seventh form; the later family's looks); each row that meets fmt, with fmt's text TOLD by the authors' own Lean function (tested against real Go, not proved from fmt's source: count such statements apart). THE CARD IS WHAT COUNTS. Prove the row's statement (the work); the ties are given (YtejodhjhddnbeaaDoorTie.lean); close each card by the builder's one call (the guide's Derived/Test/ToyasCard.lean, 'card_holds'). Laid BY PROGRAM, IN A SANDBOX (cutbox-door.mjs). By AI agents, Wed Nov 11 2026. No macro, syntax, notation, axiom, sorry.
-/
import Derived.Test.YtejodhjhddnbeaaDoorRows
import GoSem.ClaimSeven
namespace Go.Proofs.YtejodhjhddnbeaaDoor
namespace Rows

/-- THE TIED CARD OF 'drifterlaw03.ShareDivides'. -/
def shareDividesCard : Claim7 := { stood := { row := shareDividesRow, standIns := [], harness := (true, "752db1fba4dc1baf50c9642d1c5ef5d5de6bfa672efa457c4487cae6568e6d83"), looks := false }, kinds := [], alts := [], laidByText := true, laidKinds := [.funcs], laidTests := true, laidLooks := .later }
def ShareDividesCardSaid : Prop := Claim7.holds Tryd.pinned (.plain (OpenSpec.ofChange shareDividesSpec)) shareDividesCard

/-- THE TIED CARD OF 'drifterlaw03.ShareClaims'. -/
def shareClaimsCard : Claim7 := { stood := { row := shareClaimsRow, standIns := [], harness := (true, "752db1fba4dc1baf50c9642d1c5ef5d5de6bfa672efa457c4487cae6568e6d83"), looks := false }, kinds := [], alts := [], laidByText := true, laidKinds := [.funcs], laidTests := true, laidLooks := .later }
def ShareClaimsCardSaid : Prop := Claim7.holds Tryd.pinned (.plain (OpenSpec.ofChange shareClaimsSpec)) shareClaimsCard

/-- THE TIED CARD OF 'drifterlaw03.ShareDues'. -/
def shareDuesCard : Claim7 := { stood := { row := shareDuesRow, standIns := [], harness := (true, "752db1fba4dc1baf50c9642d1c5ef5d5de6bfa672efa457c4487cae6568e6d83"), looks := false }, kinds := [], alts := [], laidByText := true, laidKinds := [.funcs], laidTests := true, laidLooks := .later }
def ShareDuesCardSaid : Prop := Claim7.holds Tryd.pinned (.plain (OpenSpec.ofChange shareDuesSpec)) shareDuesCard

/-- THE TIED CARD OF 'drifterlaw03.ShareFair'. -/
def shareFairCard : Claim7 := { stood := { row := shareFairRow, standIns := [], harness := (true, "752db1fba4dc1baf50c9642d1c5ef5d5de6bfa672efa457c4487cae6568e6d83"), looks := false }, kinds := [], alts := [], laidByText := true, laidKinds := [.funcs], laidTests := true, laidLooks := .later }
def ShareFairCardSaid : Prop := Claim7.holds Tryd.pinned (.plain (OpenSpec.ofChange shareFairSpec)) shareFairCard

/-- THE TIED CARD OF 'drifterlaw03.ShareTurned'. -/
def shareTurnedCard : Claim7 := { stood := { row := shareTurnedRow, standIns := [], harness := (true, "752db1fba4dc1baf50c9642d1c5ef5d5de6bfa672efa457c4487cae6568e6d83"), looks := false }, kinds := [], alts := [], laidByText := true, laidKinds := [.funcs], laidTests := true, laidLooks := .later }
def ShareTurnedCardSaid : Prop := Claim7.holds Tryd.pinned (.plain (OpenSpec.ofChange shareTurnedSpec)) shareTurnedCard

/-- THE TIED CARD OF 'drifterlaw03.SharePenny'. -/
def sharePennyCard : Claim7 := { stood := { row := sharePennyRow, standIns := [], harness := (true, "752db1fba4dc1baf50c9642d1c5ef5d5de6bfa672efa457c4487cae6568e6d83"), looks := false }, kinds := [], alts := [], laidByText := true, laidKinds := [.funcs], laidTests := true, laidLooks := .later }
def SharePennyCardSaid : Prop := Claim7.holds Tryd.pinned (.plain (OpenSpec.ofChange sharePennySpec)) sharePennyCard

/-- THE TIED CARD OF 'drifterlaw03.ShareOrder'. -/
def shareOrderCard : Claim7 := { stood := { row := shareOrderRow, standIns := [], harness := (true, "752db1fba4dc1baf50c9642d1c5ef5d5de6bfa672efa457c4487cae6568e6d83"), looks := false }, kinds := [], alts := [], laidByText := true, laidKinds := [.funcs], laidTests := true, laidLooks := .later }
def ShareOrderCardSaid : Prop := Claim7.holds Tryd.pinned (.plain (OpenSpec.ofChange shareOrderSpec)) shareOrderCard

/-- THE TIED CARD OF 'drifterlaw03.ShareLent'. -/
def shareLentCard : Claim7 := { stood := { row := shareLentRow, standIns := [], harness := (true, "752db1fba4dc1baf50c9642d1c5ef5d5de6bfa672efa457c4487cae6568e6d83"), looks := false }, kinds := [], alts := [], laidByText := true, laidKinds := [.funcs], laidTests := true, laidLooks := .later }
def ShareLentCardSaid : Prop := Claim7.holds Tryd.pinned (.plain (OpenSpec.ofChange shareLentSpec)) shareLentCard

/-- THE TIED CARD OF 'drifterlaw03.ShareGrouped'. -/
def shareGroupedCard : Claim7 := { stood := { row := shareGroupedRow, standIns := [], harness := (true, "752db1fba4dc1baf50c9642d1c5ef5d5de6bfa672efa457c4487cae6568e6d83"), looks := false }, kinds := [], alts := [], laidByText := true, laidKinds := [.funcs], laidTests := true, laidLooks := .later }
def ShareGroupedCardSaid : Prop := Claim7.holds Tryd.pinned (.plain (OpenSpec.ofChange shareGroupedSpec)) shareGroupedCard

/-- THE TIED CARD OF 'drifterlaw03.ShareCleared'. -/
def shareClearedCard : Claim7 := { stood := { row := shareClearedRow, standIns := [], harness := (true, "752db1fba4dc1baf50c9642d1c5ef5d5de6bfa672efa457c4487cae6568e6d83"), looks := false }, kinds := [], alts := [], laidByText := true, laidKinds := [.funcs], laidTests := true, laidLooks := .later }
def ShareClearedCardSaid : Prop := Claim7.holds Tryd.pinned (.plain (OpenSpec.ofChange shareClearedSpec)) shareClearedCard

/-- THE TIED CARD OF 'drifterlaw03.ShareSpoilt'. -/
def shareSpoiltCard : Claim7 := { stood := { row := shareSpoiltRow, standIns := [], harness := (true, "752db1fba4dc1baf50c9642d1c5ef5d5de6bfa672efa457c4487cae6568e6d83"), looks := false }, kinds := [], alts := [], laidByText := true, laidKinds := [.funcs], laidTests := true, laidLooks := .later }
def ShareSpoiltCardSaid : Prop := Claim7.holds Tryd.pinned (.plain (OpenSpec.ofChange shareSpoiltSpec)) shareSpoiltCard

/-- THE TIED CARD OF 'drifterlaw03.ShareKnown'. -/
def shareKnownCard : Claim7 := { stood := { row := shareKnownRow, standIns := [], harness := (true, "752db1fba4dc1baf50c9642d1c5ef5d5de6bfa672efa457c4487cae6568e6d83"), looks := false }, kinds := [], alts := [], laidByText := true, laidKinds := [.funcs], laidTests := true, laidLooks := .later }
def ShareKnownCardSaid : Prop := Claim7.holds Tryd.pinned (.plain (OpenSpec.ofChange shareKnownSpec)) shareKnownCard

/-- THE SECOND FORM's CARD OF 'drifterlaw03.ShareDivides'. -/
def shareDividesUptoCard : Claim7 := { stood := { row := shareDividesUptoRow, standIns := [], harness := (true, "752db1fba4dc1baf50c9642d1c5ef5d5de6bfa672efa457c4487cae6568e6d83"), looks := false }, kinds := [], alts := [], laidByText := true, laidKinds := [.funcs], laidTests := true, laidLooks := .later }
def ShareDividesUptoCardSaid : Prop := Claim7.holds Tryd.pinned (.plain (OpenSpec.upto shareDividesSpec)) shareDividesUptoCard

/-- THE SECOND FORM's CARD OF 'drifterlaw03.ShareClaims'. -/
def shareClaimsUptoCard : Claim7 := { stood := { row := shareClaimsUptoRow, standIns := [], harness := (true, "752db1fba4dc1baf50c9642d1c5ef5d5de6bfa672efa457c4487cae6568e6d83"), looks := false }, kinds := [], alts := [], laidByText := true, laidKinds := [.funcs], laidTests := true, laidLooks := .later }
def ShareClaimsUptoCardSaid : Prop := Claim7.holds Tryd.pinned (.plain (OpenSpec.upto shareClaimsSpec)) shareClaimsUptoCard

/-- THE SECOND FORM's CARD OF 'drifterlaw03.ShareDues'. -/
def shareDuesUptoCard : Claim7 := { stood := { row := shareDuesUptoRow, standIns := [], harness := (true, "752db1fba4dc1baf50c9642d1c5ef5d5de6bfa672efa457c4487cae6568e6d83"), looks := false }, kinds := [], alts := [], laidByText := true, laidKinds := [.funcs], laidTests := true, laidLooks := .later }
def ShareDuesUptoCardSaid : Prop := Claim7.holds Tryd.pinned (.plain (OpenSpec.upto shareDuesSpec)) shareDuesUptoCard

/-- THE SECOND FORM's CARD OF 'drifterlaw03.ShareFair'. -/
def shareFairUptoCard : Claim7 := { stood := { row := shareFairUptoRow, standIns := [], harness := (true, "752db1fba4dc1baf50c9642d1c5ef5d5de6bfa672efa457c4487cae6568e6d83"), looks := false }, kinds := [], alts := [], laidByText := true, laidKinds := [.funcs], laidTests := true, laidLooks := .later }
def ShareFairUptoCardSaid : Prop := Claim7.holds Tryd.pinned (.plain (OpenSpec.upto shareFairSpec)) shareFairUptoCard

/-- THE SECOND FORM's CARD OF 'drifterlaw03.ShareTurned'. -/
def shareTurnedUptoCard : Claim7 := { stood := { row := shareTurnedUptoRow, standIns := [], harness := (true, "752db1fba4dc1baf50c9642d1c5ef5d5de6bfa672efa457c4487cae6568e6d83"), looks := false }, kinds := [], alts := [], laidByText := true, laidKinds := [.funcs], laidTests := true, laidLooks := .later }
def ShareTurnedUptoCardSaid : Prop := Claim7.holds Tryd.pinned (.plain (OpenSpec.upto shareTurnedSpec)) shareTurnedUptoCard

/-- THE SECOND FORM's CARD OF 'drifterlaw03.SharePenny'. -/
def sharePennyUptoCard : Claim7 := { stood := { row := sharePennyUptoRow, standIns := [], harness := (true, "752db1fba4dc1baf50c9642d1c5ef5d5de6bfa672efa457c4487cae6568e6d83"), looks := false }, kinds := [], alts := [], laidByText := true, laidKinds := [.funcs], laidTests := true, laidLooks := .later }
def SharePennyUptoCardSaid : Prop := Claim7.holds Tryd.pinned (.plain (OpenSpec.upto sharePennySpec)) sharePennyUptoCard

/-- THE SECOND FORM's CARD OF 'drifterlaw03.ShareOrder'. -/
def shareOrderUptoCard : Claim7 := { stood := { row := shareOrderUptoRow, standIns := [], harness := (true, "752db1fba4dc1baf50c9642d1c5ef5d5de6bfa672efa457c4487cae6568e6d83"), looks := false }, kinds := [], alts := [], laidByText := true, laidKinds := [.funcs], laidTests := true, laidLooks := .later }
def ShareOrderUptoCardSaid : Prop := Claim7.holds Tryd.pinned (.plain (OpenSpec.upto shareOrderSpec)) shareOrderUptoCard

/-- THE SECOND FORM's CARD OF 'drifterlaw03.ShareLent'. -/
def shareLentUptoCard : Claim7 := { stood := { row := shareLentUptoRow, standIns := [], harness := (true, "752db1fba4dc1baf50c9642d1c5ef5d5de6bfa672efa457c4487cae6568e6d83"), looks := false }, kinds := [], alts := [], laidByText := true, laidKinds := [.funcs], laidTests := true, laidLooks := .later }
def ShareLentUptoCardSaid : Prop := Claim7.holds Tryd.pinned (.plain (OpenSpec.upto shareLentSpec)) shareLentUptoCard

/-- THE SECOND FORM's CARD OF 'drifterlaw03.ShareGrouped'. -/
def shareGroupedUptoCard : Claim7 := { stood := { row := shareGroupedUptoRow, standIns := [], harness := (true, "752db1fba4dc1baf50c9642d1c5ef5d5de6bfa672efa457c4487cae6568e6d83"), looks := false }, kinds := [], alts := [], laidByText := true, laidKinds := [.funcs], laidTests := true, laidLooks := .later }
def ShareGroupedUptoCardSaid : Prop := Claim7.holds Tryd.pinned (.plain (OpenSpec.upto shareGroupedSpec)) shareGroupedUptoCard

/-- THE SECOND FORM's CARD OF 'drifterlaw03.ShareCleared'. -/
def shareClearedUptoCard : Claim7 := { stood := { row := shareClearedUptoRow, standIns := [], harness := (true, "752db1fba4dc1baf50c9642d1c5ef5d5de6bfa672efa457c4487cae6568e6d83"), looks := false }, kinds := [], alts := [], laidByText := true, laidKinds := [.funcs], laidTests := true, laidLooks := .later }
def ShareClearedUptoCardSaid : Prop := Claim7.holds Tryd.pinned (.plain (OpenSpec.upto shareClearedSpec)) shareClearedUptoCard

/-- THE SECOND FORM's CARD OF 'drifterlaw03.ShareSpoilt'. -/
def shareSpoiltUptoCard : Claim7 := { stood := { row := shareSpoiltUptoRow, standIns := [], harness := (true, "752db1fba4dc1baf50c9642d1c5ef5d5de6bfa672efa457c4487cae6568e6d83"), looks := false }, kinds := [], alts := [], laidByText := true, laidKinds := [.funcs], laidTests := true, laidLooks := .later }
def ShareSpoiltUptoCardSaid : Prop := Claim7.holds Tryd.pinned (.plain (OpenSpec.upto shareSpoiltSpec)) shareSpoiltUptoCard

/-- THE SECOND FORM's CARD OF 'drifterlaw03.ShareKnown'. -/
def shareKnownUptoCard : Claim7 := { stood := { row := shareKnownUptoRow, standIns := [], harness := (true, "752db1fba4dc1baf50c9642d1c5ef5d5de6bfa672efa457c4487cae6568e6d83"), looks := false }, kinds := [], alts := [], laidByText := true, laidKinds := [.funcs], laidTests := true, laidLooks := .later }
def ShareKnownUptoCardSaid : Prop := Claim7.holds Tryd.pinned (.plain (OpenSpec.upto shareKnownSpec)) shareKnownUptoCard
end Rows
end Go.Proofs.YtejodhjhddnbeaaDoor
