/-
  DERIVED. GIVEN WITH THE SEED: THE CARDS: each row of YtdegengehbdelaaGreatDoorRows.lean that lists a variable, with what it lists TIED to the program's text (the seventh form; the later family's looks); each row that meets fmt, with fmt's text TOLD by the authors' own Lean function (tested against real Go, not proved from fmt's source: count such statements apart). THE CARD IS WHAT COUNTS. Prove the row's statement (the work); the ties are given (YtdegengehbdelaaGreatDoorTie.lean); close each card by the builder's one call (the guide's Derived/Test/ToyasCard.lean, 'card_holds'). Laid BY PROGRAM, IN A SANDBOX (cutbox-door.mjs). By AI agents, Wed Nov 11 2026. No macro, syntax, notation, axiom, sorry.
-/
import Derived.Test.YtdegengehbdelaaGreatDoorRows
import GoSem.ClaimSeven
namespace Go.Proofs.YtdegengehbdelaaGreatDoor
namespace Rows

/-- THE TIED CARD OF 'kinespheretop.TopEdition'. -/
def topEditionCard : Claim7 := { stood := { row := topEditionRow, standIns := [], harness := (true, "ae98f56dcbdf33dbe9ca8a3aa9cddb60a8b9124cf2665c72ec3a559c918af319"), looks := false }, kinds := [], alts := [], laidByText := true, laidKinds := [.data, .data], laidTests := true, laidLooks := .later }
def TopEditionCardSaid : Prop := Claim7.holds Tryz.pinned (.plain (OpenSpec.ofChange topEditionSpec)) topEditionCard

/-- THE SECOND FORM's CARD OF 'kinespheretop.TopEdition'. -/
def topEditionUptoCard : Claim7 := { stood := { row := topEditionUptoRow, standIns := [], harness := (true, "ae98f56dcbdf33dbe9ca8a3aa9cddb60a8b9124cf2665c72ec3a559c918af319"), looks := false }, kinds := [], alts := [], laidByText := true, laidKinds := [.data, .data], laidTests := true, laidLooks := .later }
def TopEditionUptoCardSaid : Prop := Claim7.holds Tryz.pinned (.plain (OpenSpec.upto topEditionSpec)) topEditionUptoCard
end Rows
end Go.Proofs.YtdegengehbdelaaGreatDoor
