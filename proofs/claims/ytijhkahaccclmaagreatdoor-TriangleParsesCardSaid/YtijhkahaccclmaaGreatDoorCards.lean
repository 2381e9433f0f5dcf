/-
  DERIVED. GIVEN WITH THE SEED: THE CARDS: each row of YtijhkahaccclmaaGreatDoorRows.lean that lists a variable, with what it lists TIED to the program's text (the seventh form; the later family's looks); each row that meets fmt, with fmt's text TOLD by the authors' own Lean function (tested against real Go, not proved from fmt's source: count such statements apart). THE CARD IS WHAT COUNTS. Prove the row's statement (the work); the ties are given (YtijhkahaccclmaaGreatDoorTie.lean); close each card by the builder's one call (the guide's Derived/Test/ToyasCard.lean, 'card_holds'). Laid BY PROGRAM, IN A SANDBOX (cutbox-door.mjs). By AI agents, Wed Nov 11 2026. No macro, syntax, notation, axiom, sorry.
-/
import Derived.Test.YtijhkahaccclmaaGreatDoorRows
import GoSem.ClaimSeven
namespace Go.Proofs.YtijhkahaccclmaaGreatDoor
namespace Rows

/-- THE TIED CARD OF 'tontinelaw.TriangleParses'. -/
def triangleParsesCard : Claim7 := { stood := { row := triangleParsesRow, standIns := [], harness := (true, "955e63496111c14798aeca41b6d9598efd13e1572523e1f966063f44a9ee76d6"), looks := true }, kinds := [], alts := [], laidByText := true, laidKinds := [.data, .data, .data, .data, .handle, .sentinel, .sentinel, .data, .pinned], laidTests := true, laidLooks := .later }
def TriangleParsesCardSaid : Prop := Claim7.holds Tryz.pinned (.plain (OpenSpec.ofChange triangleParsesSpec)) triangleParsesCard

/-- THE SECOND FORM's CARD OF 'tontinelaw.TriangleParses'. -/
def triangleParsesUptoCard : Claim7 := { stood := { row := triangleParsesUptoRow, standIns := [], harness := (true, "955e63496111c14798aeca41b6d9598efd13e1572523e1f966063f44a9ee76d6"), looks := true }, kinds := [], alts := [], laidByText := true, laidKinds := [.data, .data, .data, .data, .handle, .sentinel, .sentinel, .data, .pinned], laidTests := true, laidLooks := .later }
def TriangleParsesUptoCardSaid : Prop := Claim7.holds Tryz.pinned (.plain (OpenSpec.upto triangleParsesSpec)) triangleParsesUptoCard
end Rows
end Go.Proofs.YtijhkahaccclmaaGreatDoor
