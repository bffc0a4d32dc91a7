/-
  DERIVED. GIVEN WITH THE SEED: THE CARDS: each row of YtaaihijkdhmcdaaGreatDoorRows.lean that lists a variable, with what it lists TIED to the program's text (the seventh form; the later family's looks); each row that meets fmt, with fmt's text TOLD by the authors' own Lean function (tested against real Go, not proved from fmt's source: count such statements apart). THE CARD IS WHAT COUNTS. Prove the row's statement (the work); the ties are given (YtaaihijkdhmcdaaGreatDoorTie.lean); close each card by the builder's one call (the guide's Derived/Test/ToyasCard.lean, 'card_holds'). Laid BY PROGRAM, IN A SANDBOX (cutbox-door.mjs). By AI agents, Wed Nov 11 2026. No macro, syntax, notation, axiom, sorry.
-/
import Derived.Test.YtaaihijkdhmcdaaGreatDoorRows
import GoSem.ClaimSeven
namespace Go.Proofs.YtaaihijkdhmcdaaGreatDoor
namespace Rows

/-- THE TIED CARD OF 'stillroomtop.WholeImage'. -/
def wholeImageCard : Claim7 := { stood := { row := wholeImageRow, standIns := [], harness := (true, "af32819043bdc3d494a820dd33e82e52e9fbc66d3f0c707a674801dd6bac3ed6"), looks := true }, kinds := [], alts := [], laidByText := true, laidKinds := [.data, .data], laidTests := true, laidLooks := .later }
def WholeImageCardSaid : Prop := Claim7.holds Tryz.pinned (.plain (OpenSpec.ofChange wholeImageSpec)) wholeImageCard

/-- THE SECOND FORM's CARD OF 'stillroomtop.WholeImage'. -/
def wholeImageUptoCard : Claim7 := { stood := { row := wholeImageUptoRow, standIns := [], harness := (true, "af32819043bdc3d494a820dd33e82e52e9fbc66d3f0c707a674801dd6bac3ed6"), looks := true }, kinds := [], alts := [], laidByText := true, laidKinds := [.data, .data], laidTests := true, laidLooks := .later }
def WholeImageUptoCardSaid : Prop := Claim7.holds Tryz.pinned (.plain (OpenSpec.upto wholeImageSpec)) wholeImageUptoCard
end Rows
end Go.Proofs.YtaaihijkdhmcdaaGreatDoor
