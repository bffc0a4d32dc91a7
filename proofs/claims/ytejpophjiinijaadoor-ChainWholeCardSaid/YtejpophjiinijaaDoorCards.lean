/-
  DERIVED. GIVEN WITH THE SEED: THE CARDS: each row of YtejpophjiinijaaDoorRows.lean that lists a variable, with what it lists TIED to the program's text (the seventh form; the later family's looks); each row that meets fmt, with fmt's text TOLD by the authors' own Lean function (tested against real Go, not proved from fmt's source: count such statements apart). THE CARD IS WHAT COUNTS. Prove the row's statement (the work); the ties are given (YtejpophjiinijaaDoorTie.lean); close each card by the builder's one call (the guide's Derived/Test/ToyasCard.lean, 'card_holds'). Laid BY PROGRAM, IN A SANDBOX (cutbox-door.mjs). By AI agents, Wed Nov 11 2026. No macro, syntax, notation, axiom, sorry.
-/
import Derived.Test.YtejpophjiinijaaDoorRows
import GoSem.ClaimSeven
namespace Go.Proofs.YtejpophjiinijaaDoor
namespace Rows

/-- THE TIED CARD OF 'stillroomlaw13.ChainSees'. -/
def chainSeesCard : Claim7 := { stood := { row := chainSeesRow, standIns := [], harness := (true, "2b60525bd2dc63ecdad7bb1c9982ac3b34ad619094ead16881a62c2d448bea8c"), looks := true }, kinds := [], alts := [], laidByText := true, laidKinds := [.data, .data], laidTests := true, laidLooks := .later }
def ChainSeesCardSaid : Prop := Claim7.holds Tryd.pinned (.plain (OpenSpec.ofChange chainSeesSpec)) chainSeesCard

/-- THE TIED CARD OF 'stillroomlaw13.ChainTrims'. -/
def chainTrimsCard : Claim7 := { stood := { row := chainTrimsRow, standIns := [], harness := (true, "2b60525bd2dc63ecdad7bb1c9982ac3b34ad619094ead16881a62c2d448bea8c"), looks := true }, kinds := [], alts := [], laidByText := true, laidKinds := [.data, .data], laidTests := true, laidLooks := .later }
def ChainTrimsCardSaid : Prop := Claim7.holds Tryd.pinned (.plain (OpenSpec.ofChange chainTrimsSpec)) chainTrimsCard

/-- THE TIED CARD OF 'stillroomlaw13.ChainCorrupt'. -/
def chainCorruptCard : Claim7 := { stood := { row := chainCorruptRow, standIns := [], harness := (true, "2b60525bd2dc63ecdad7bb1c9982ac3b34ad619094ead16881a62c2d448bea8c"), looks := true }, kinds := [], alts := [], laidByText := true, laidKinds := [.data, .data], laidTests := true, laidLooks := .later }
def ChainCorruptCardSaid : Prop := Claim7.holds Tryd.pinned (.plain (OpenSpec.ofChange chainCorruptSpec)) chainCorruptCard

/-- THE TIED CARD OF 'stillroomlaw13.ChainPast'. -/
def chainPastCard : Claim7 := { stood := { row := chainPastRow, standIns := [], harness := (true, "2b60525bd2dc63ecdad7bb1c9982ac3b34ad619094ead16881a62c2d448bea8c"), looks := true }, kinds := [], alts := [], laidByText := true, laidKinds := [.data, .data], laidTests := true, laidLooks := .later }
def ChainPastCardSaid : Prop := Claim7.holds Tryd.pinned (.plain (OpenSpec.ofChange chainPastSpec)) chainPastCard

/-- THE TIED CARD OF 'stillroomlaw13.ChainNeeds'. -/
def chainNeedsCard : Claim7 := { stood := { row := chainNeedsRow, standIns := [], harness := (true, "2b60525bd2dc63ecdad7bb1c9982ac3b34ad619094ead16881a62c2d448bea8c"), looks := true }, kinds := [], alts := [], laidByText := true, laidKinds := [.data, .data], laidTests := true, laidLooks := .later }
def ChainNeedsCardSaid : Prop := Claim7.holds Tryd.pinned (.plain (OpenSpec.ofChange chainNeedsSpec)) chainNeedsCard

/-- THE TIED CARD OF 'stillroomlaw13.ChainWhole'. -/
def chainWholeCard : Claim7 := { stood := { row := chainWholeRow, standIns := [], harness := (true, "2b60525bd2dc63ecdad7bb1c9982ac3b34ad619094ead16881a62c2d448bea8c"), looks := true }, kinds := [], alts := [], laidByText := true, laidKinds := [.data, .data], laidTests := true, laidLooks := .later }
def ChainWholeCardSaid : Prop := Claim7.holds Tryd.pinned (.plain (OpenSpec.ofChange chainWholeSpec)) chainWholeCard

/-- THE TIED CARD OF 'stillroomlaw13.ChainLists'. -/
def chainListsCard : Claim7 := { stood := { row := chainListsRow, standIns := [], harness := (true, "2b60525bd2dc63ecdad7bb1c9982ac3b34ad619094ead16881a62c2d448bea8c"), looks := true }, kinds := [], alts := [], laidByText := true, laidKinds := [.data, .data], laidTests := true, laidLooks := .later }
def ChainListsCardSaid : Prop := Claim7.holds Tryd.pinned (.plain (OpenSpec.ofChange chainListsSpec)) chainListsCard

/-- THE SECOND FORM's CARD OF 'stillroomlaw13.ChainSees'. -/
def chainSeesUptoCard : Claim7 := { stood := { row := chainSeesUptoRow, standIns := [], harness := (true, "2b60525bd2dc63ecdad7bb1c9982ac3b34ad619094ead16881a62c2d448bea8c"), looks := true }, kinds := [], alts := [], laidByText := true, laidKinds := [.data, .data], laidTests := true, laidLooks := .later }
def ChainSeesUptoCardSaid : Prop := Claim7.holds Tryd.pinned (.plain (OpenSpec.upto chainSeesSpec)) chainSeesUptoCard

/-- THE SECOND FORM's CARD OF 'stillroomlaw13.ChainTrims'. -/
def chainTrimsUptoCard : Claim7 := { stood := { row := chainTrimsUptoRow, standIns := [], harness := (true, "2b60525bd2dc63ecdad7bb1c9982ac3b34ad619094ead16881a62c2d448bea8c"), looks := true }, kinds := [], alts := [], laidByText := true, laidKinds := [.data, .data], laidTests := true, laidLooks := .later }
def ChainTrimsUptoCardSaid : Prop := Claim7.holds Tryd.pinned (.plain (OpenSpec.upto chainTrimsSpec)) chainTrimsUptoCard

/-- THE SECOND FORM's CARD OF 'stillroomlaw13.ChainCorrupt'. -/
def chainCorruptUptoCard : Claim7 := { stood := { row := chainCorruptUptoRow, standIns := [], harness := (true, "2b60525bd2dc63ecdad7bb1c9982ac3b34ad619094ead16881a62c2d448bea8c"), looks := true }, kinds := [], alts := [], laidByText := true, laidKinds := [.data, .data], laidTests := true, laidLooks := .later }
def ChainCorruptUptoCardSaid : Prop := Claim7.holds Tryd.pinned (.plain (OpenSpec.upto chainCorruptSpec)) chainCorruptUptoCard

/-- THE SECOND FORM's CARD OF 'stillroomlaw13.ChainPast'. -/
def chainPastUptoCard : Claim7 := { stood := { row := chainPastUptoRow, standIns := [], harness := (true, "2b60525bd2dc63ecdad7bb1c9982ac3b34ad619094ead16881a62c2d448bea8c"), looks := true }, kinds := [], alts := [], laidByText := true, laidKinds := [.data, .data], laidTests := true, laidLooks := .later }
def ChainPastUptoCardSaid : Prop := Claim7.holds Tryd.pinned (.plain (OpenSpec.upto chainPastSpec)) chainPastUptoCard

/-- THE SECOND FORM's CARD OF 'stillroomlaw13.ChainNeeds'. -/
def chainNeedsUptoCard : Claim7 := { stood := { row := chainNeedsUptoRow, standIns := [], harness := (true, "2b60525bd2dc63ecdad7bb1c9982ac3b34ad619094ead16881a62c2d448bea8c"), looks := true }, kinds := [], alts := [], laidByText := true, laidKinds := [.data, .data], laidTests := true, laidLooks := .later }
def ChainNeedsUptoCardSaid : Prop := Claim7.holds Tryd.pinned (.plain (OpenSpec.upto chainNeedsSpec)) chainNeedsUptoCard

/-- THE SECOND FORM's CARD OF 'stillroomlaw13.ChainWhole'. -/
def chainWholeUptoCard : Claim7 := { stood := { row := chainWholeUptoRow, standIns := [], harness := (true, "2b60525bd2dc63ecdad7bb1c9982ac3b34ad619094ead16881a62c2d448bea8c"), looks := true }, kinds := [], alts := [], laidByText := true, laidKinds := [.data, .data], laidTests := true, laidLooks := .later }
def ChainWholeUptoCardSaid : Prop := Claim7.holds Tryd.pinned (.plain (OpenSpec.upto chainWholeSpec)) chainWholeUptoCard

/-- THE SECOND FORM's CARD OF 'stillroomlaw13.ChainLists'. -/
def chainListsUptoCard : Claim7 := { stood := { row := chainListsUptoRow, standIns := [], harness := (true, "2b60525bd2dc63ecdad7bb1c9982ac3b34ad619094ead16881a62c2d448bea8c"), looks := true }, kinds := [], alts := [], laidByText := true, laidKinds := [.data, .data], laidTests := true, laidLooks := .later }
def ChainListsUptoCardSaid : Prop := Claim7.holds Tryd.pinned (.plain (OpenSpec.upto chainListsSpec)) chainListsUptoCard
end Rows
end Go.Proofs.YtejpophjiinijaaDoor
