/-
  DERIVED. GIVEN WITH THE SEED: THE CARDS: each row of YtijdmnimiipinaaDoorRows.lean that lists a variable, with what it lists TIED to the program's text (the seventh form; the later family's looks); each row that meets fmt, with fmt's text TOLD by the authors' own Lean function (tested against real Go, not proved from fmt's source: count such statements apart). THE CARD IS WHAT COUNTS. Prove the row's statement (the work); the ties are given (YtijdmnimiipinaaDoorTie.lean); close each card by the builder's one call (the guide's Derived/Test/ToyasCard.lean, 'card_holds'). Laid BY PROGRAM, IN A SANDBOX (cutbox-door.mjs). By AI agents, Wed Nov 11 2026. No macro, syntax, notation, axiom, sorry.
-/
import Derived.Test.YtijdmnimiipinaaDoorRows
import GoSem.ClaimSeven
namespace Go.Proofs.YtijdmnimiipinaaDoor
namespace Rows

/-- THE TIED CARD OF 'tontinelaw.WaveMany'. -/
def waveManyCard : Claim7 := { stood := { row := waveManyRow, standIns := [], harness := (true, "3debaf37765f823804eab4f8ff289f20d4d81f344710e30dd90467fc0c8b9882"), looks := true }, kinds := [], alts := [], laidByText := true, laidKinds := [.handle], laidTests := true, laidLooks := .later }
def WaveManyCardSaid : Prop := Claim7.holds Tryd.pinned (.plain (OpenSpec.ofChange waveManySpec)) waveManyCard

/-- THE SECOND FORM's CARD OF 'tontinelaw.WaveMany'. -/
def waveManyUptoCard : Claim7 := { stood := { row := waveManyUptoRow, standIns := [], harness := (true, "3debaf37765f823804eab4f8ff289f20d4d81f344710e30dd90467fc0c8b9882"), looks := true }, kinds := [], alts := [], laidByText := true, laidKinds := [.handle], laidTests := true, laidLooks := .later }
def WaveManyUptoCardSaid : Prop := Claim7.holds Tryd.pinned (.plain (OpenSpec.upto waveManySpec)) waveManyUptoCard
end Rows
end Go.Proofs.YtijdmnimiipinaaDoor
