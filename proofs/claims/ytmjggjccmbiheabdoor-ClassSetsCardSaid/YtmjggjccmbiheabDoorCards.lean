/-
  DERIVED. GIVEN WITH THE SEED: THE CARDS: each row of YtmjggjccmbiheabDoorRows.lean that lists a variable, with what it lists TIED to the program's text (the seventh form; the later family's looks); each row that meets fmt, with fmt's text TOLD by the authors' own Lean function (tested against real Go, not proved from fmt's source: count such statements apart). THE CARD IS WHAT COUNTS. Prove the row's statement (the work); the ties are given (YtmjggjccmbiheabDoorTie.lean); close each card by the builder's one call (the guide's Derived/Test/ToyasCard.lean, 'card_holds'). Laid BY PROGRAM, IN A SANDBOX (cutbox-door.mjs). By AI agents, Wed Nov 11 2026. No macro, syntax, notation, axiom, sorry.
-/
import Derived.Test.YtmjggjccmbiheabDoorRows
import GoSem.ClaimSeven
namespace Go.Proofs.YtmjggjccmbiheabDoor
namespace Rows

/-- THE TIED CARD OF 'linhaylaw13.ClassSets'. -/
def classSetsCard : Claim7 := { stood := { row := classSetsRow, standIns := [], harness := (true, "03fe21d75a0b39fef461693c24fd59b0d5552dfe36cf3063a6081144e250d47a"), looks := false }, kinds := [], alts := [], laidByText := true, laidKinds := [.data, .pinned], laidTests := true, laidLooks := .later }
def ClassSetsCardSaid : Prop := Claim7.holds Tryd.pinned (.plain (OpenSpec.ofChange classSetsSpec)) classSetsCard

/-- THE SECOND FORM's CARD OF 'linhaylaw13.ClassSets'. -/
def classSetsUptoCard : Claim7 := { stood := { row := classSetsUptoRow, standIns := [], harness := (true, "03fe21d75a0b39fef461693c24fd59b0d5552dfe36cf3063a6081144e250d47a"), looks := false }, kinds := [], alts := [], laidByText := true, laidKinds := [.data, .pinned], laidTests := true, laidLooks := .later }
def ClassSetsUptoCardSaid : Prop := Claim7.holds Tryd.pinned (.plain (OpenSpec.upto classSetsSpec)) classSetsUptoCard
end Rows
end Go.Proofs.YtmjggjccmbiheabDoor
