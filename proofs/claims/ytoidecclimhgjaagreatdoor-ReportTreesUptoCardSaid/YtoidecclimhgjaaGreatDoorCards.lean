/-
  DERIVED. GIVEN WITH THE SEED: THE CARDS: each row of YtoidecclimhgjaaGreatDoorRows.lean that lists a variable, with what it lists TIED to the program's text (the seventh form; the later family's looks); each row that meets fmt, with fmt's text TOLD by the authors' own Lean function (tested against real Go, not proved from fmt's source: count such statements apart). THE CARD IS WHAT COUNTS. Prove the row's statement (the work); the ties are given (YtoidecclimhgjaaGreatDoorTie.lean); close each card by the builder's one call (the guide's Derived/Test/ToyasCard.lean, 'card_holds'). Laid BY PROGRAM, IN A SANDBOX (cutbox-door.mjs). By AI agents, Wed Nov 11 2026. No macro, syntax, notation, axiom, sorry.
-/
import Derived.Test.YtoidecclimhgjaaGreatDoorRows
import GoSem.ClaimSeven
namespace Go.Proofs.YtoidecclimhgjaaGreatDoor
namespace Rows

/-- THE TIED CARD OF 'dovetaillaw29.ReportTrees'. -/
def reportTreesCard : Claim7 := { stood := { row := reportTreesRow, standIns := [], harness := (true, "70b0f5a8c382de02e9afaacc7867f1e3e74a016f3b23f5bd571a8cbdd37f96af"), looks := true }, kinds := [], alts := [], laidByText := true, laidKinds := [.data, .data, .data, .handle, .sentinel, .sentinel, .sentinel, .sentinel, .sentinel, .sentinel, .sentinel, .sentinel, .sentinel, .sentinel, .sentinel, .sentinel, .sentinel, .sentinel, .sentinel], laidTests := true, laidLooks := .later }
def ReportTreesCardSaid : Prop := Claim7.holds Tryz.pinned (.plain (OpenSpec.ofChange reportTreesSpec)) reportTreesCard

/-- THE SECOND FORM's CARD OF 'dovetaillaw29.ReportTrees'. -/
def reportTreesUptoCard : Claim7 := { stood := { row := reportTreesUptoRow, standIns := [], harness := (true, "70b0f5a8c382de02e9afaacc7867f1e3e74a016f3b23f5bd571a8cbdd37f96af"), looks := true }, kinds := [], alts := [], laidByText := true, laidKinds := [.data, .data, .data, .handle, .sentinel, .sentinel, .sentinel, .sentinel, .sentinel, .sentinel, .sentinel, .sentinel, .sentinel, .sentinel, .sentinel, .sentinel, .sentinel, .sentinel, .sentinel], laidTests := true, laidLooks := .later }
def ReportTreesUptoCardSaid : Prop := Claim7.holds Tryz.pinned (.plain (OpenSpec.upto reportTreesSpec)) reportTreesUptoCard
end Rows
end Go.Proofs.YtoidecclimhgjaaGreatDoor
