/-
  DERIVED. GIVEN WITH THE SEED: THE CARDS: each row of YtnenpicelhkelaaGreatDoorRows.lean that lists a variable, with what it lists TIED to the program's text (the seventh form; the later family's looks); each row that meets fmt, with fmt's text TOLD by the authors' own Lean function (tested against real Go, not proved from fmt's source: count such statements apart). THE CARD IS WHAT COUNTS. Prove the row's statement (the work); the ties are given (YtnenpicelhkelaaGreatDoorTie.lean); close each card by the builder's one call (the guide's Derived/Test/ToyasCard.lean, 'card_holds'). Laid BY PROGRAM, IN A SANDBOX (cutbox-door.mjs). By AI agents, Wed Nov 11 2026. No macro, syntax, notation, axiom, sorry.
-/
import Derived.Test.YtnenpicelhkelaaGreatDoorRows
import GoSem.ClaimSeven
namespace Go.Proofs.YtnenpicelhkelaaGreatDoor
namespace Rows

/-- THE TIED CARD OF 'outlawlaw27.TowerNames'. -/
def towerNamesCard : Claim7 := { stood := { row := towerNamesRow, standIns := [], harness := (true, "815d6e6dfb0831ea6a2a49b4a43cc64acb27943f3a082394a5605732e0a524a8"), looks := true }, kinds := [], alts := [], laidByText := true, laidKinds := [.pinned, .data, .data, .data, .data], laidTests := true, laidLooks := .later }
def TowerNamesCardSaid : Prop := Claim7.holds Tryz.pinned (.plain (OpenSpec.ofChange towerNamesSpec)) towerNamesCard

/-- THE SECOND FORM's CARD OF 'outlawlaw27.TowerNames'. -/
def towerNamesUptoCard : Claim7 := { stood := { row := towerNamesUptoRow, standIns := [], harness := (true, "815d6e6dfb0831ea6a2a49b4a43cc64acb27943f3a082394a5605732e0a524a8"), looks := true }, kinds := [], alts := [], laidByText := true, laidKinds := [.pinned, .data, .data, .data, .data], laidTests := true, laidLooks := .later }
def TowerNamesUptoCardSaid : Prop := Claim7.holds Tryz.pinned (.plain (OpenSpec.upto towerNamesSpec)) towerNamesUptoCard
end Rows
end Go.Proofs.YtnenpicelhkelaaGreatDoor
