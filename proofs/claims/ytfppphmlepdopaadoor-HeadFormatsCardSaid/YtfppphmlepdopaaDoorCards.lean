/-
  DERIVED. GIVEN WITH THE SEED: THE CARDS: each row of YtfppphmlepdopaaDoorRows.lean that lists a variable, with what it lists TIED to the program's text (the seventh form; the later family's looks); each row that meets fmt, with fmt's text TOLD by the authors' own Lean function (tested against real Go, not proved from fmt's source: count such statements apart). THE CARD IS WHAT COUNTS. Prove the row's statement (the work); the ties are given (YtfppphmlepdopaaDoorTie.lean); close each card by the builder's one call (the guide's Derived/Test/ToyasCard.lean, 'card_holds'). Laid BY PROGRAM, IN A SANDBOX (cutbox-door.mjs). By AI agents, Wed Nov 11 2026. No macro, syntax, notation, axiom, sorry.
-/
import Derived.Test.YtfppphmlepdopaaDoorRows
import GoSem.ClaimSeven
namespace Go.Proofs.YtfppphmlepdopaaDoor
namespace Rows

/-- THE TIED CARD OF 'stillroomlaw05.HeadShapes'. -/
def headShapesCard : Claim7 := { stood := { row := headShapesRow, standIns := [], harness := (true, "ac9fab6949f4f917c88728672a2411a6bfe1a237abffbe9562594588626a8633"), looks := false }, kinds := [], alts := [], laidByText := true, laidKinds := [.data], laidTests := true, laidLooks := .later }
def HeadShapesCardSaid : Prop := Claim7.holds Tryd.pinned (.plain (OpenSpec.ofChange headShapesSpec)) headShapesCard

/-- THE TIED CARD OF 'stillroomlaw05.HeadFits'. -/
def headFitsCard : Claim7 := { stood := { row := headFitsRow, standIns := [], harness := (true, "ac9fab6949f4f917c88728672a2411a6bfe1a237abffbe9562594588626a8633"), looks := false }, kinds := [], alts := [], laidByText := true, laidKinds := [.data], laidTests := true, laidLooks := .later }
def HeadFitsCardSaid : Prop := Claim7.holds Tryd.pinned (.plain (OpenSpec.ofChange headFitsSpec)) headFitsCard

/-- THE TIED CARD OF 'stillroomlaw05.HeadWords'. -/
def headWordsCard : Claim7 := { stood := { row := headWordsRow, standIns := [], harness := (true, "ac9fab6949f4f917c88728672a2411a6bfe1a237abffbe9562594588626a8633"), looks := false }, kinds := [], alts := [], laidByText := true, laidKinds := [.data], laidTests := true, laidLooks := .later }
def HeadWordsCardSaid : Prop := Claim7.holds Tryd.pinned (.plain (OpenSpec.ofChange headWordsSpec)) headWordsCard

/-- THE TIED CARD OF 'stillroomlaw05.HeadRises'. -/
def headRisesCard : Claim7 := { stood := { row := headRisesRow, standIns := [], harness := (true, "ac9fab6949f4f917c88728672a2411a6bfe1a237abffbe9562594588626a8633"), looks := false }, kinds := [], alts := [], laidByText := true, laidKinds := [.data], laidTests := true, laidLooks := .later }
def HeadRisesCardSaid : Prop := Claim7.holds Tryd.pinned (.plain (OpenSpec.ofChange headRisesSpec)) headRisesCard

/-- THE TIED CARD OF 'stillroomlaw05.HeadTurned'. -/
def headTurnedCard : Claim7 := { stood := { row := headTurnedRow, standIns := [], harness := (true, "ac9fab6949f4f917c88728672a2411a6bfe1a237abffbe9562594588626a8633"), looks := false }, kinds := [], alts := [], laidByText := true, laidKinds := [.data], laidTests := true, laidLooks := .later }
def HeadTurnedCardSaid : Prop := Claim7.holds Tryd.pinned (.plain (OpenSpec.ofChange headTurnedSpec)) headTurnedCard

/-- THE TIED CARD OF 'stillroomlaw05.HeadOpens'. -/
def headOpensCard : Claim7 := { stood := { row := headOpensRow, standIns := [], harness := (true, "ac9fab6949f4f917c88728672a2411a6bfe1a237abffbe9562594588626a8633"), looks := false }, kinds := [], alts := [], laidByText := true, laidKinds := [.data], laidTests := true, laidLooks := .later }
def HeadOpensCardSaid : Prop := Claim7.holds Tryd.pinned (.plain (OpenSpec.ofChange headOpensSpec)) headOpensCard

/-- THE TIED CARD OF 'stillroomlaw05.HeadFormats'. -/
def headFormatsCard : Claim7 := { stood := { row := headFormatsRow, standIns := [], harness := (true, "ac9fab6949f4f917c88728672a2411a6bfe1a237abffbe9562594588626a8633"), looks := false }, kinds := [], alts := [], laidByText := true, laidKinds := [.data], laidTests := true, laidLooks := .later }
def HeadFormatsCardSaid : Prop := Claim7.holds Tryd.pinned (.plain (OpenSpec.ofChange headFormatsSpec)) headFormatsCard

/-- THE TIED CARD OF 'stillroomlaw05.HeadTorn'. -/
def headTornCard : Claim7 := { stood := { row := headTornRow, standIns := [], harness := (true, "ac9fab6949f4f917c88728672a2411a6bfe1a237abffbe9562594588626a8633"), looks := false }, kinds := [], alts := [], laidByText := true, laidKinds := [.data], laidTests := true, laidLooks := .later }
def HeadTornCardSaid : Prop := Claim7.holds Tryd.pinned (.plain (OpenSpec.ofChange headTornSpec)) headTornCard

/-- THE SECOND FORM's CARD OF 'stillroomlaw05.HeadShapes'. -/
def headShapesUptoCard : Claim7 := { stood := { row := headShapesUptoRow, standIns := [], harness := (true, "ac9fab6949f4f917c88728672a2411a6bfe1a237abffbe9562594588626a8633"), looks := false }, kinds := [], alts := [], laidByText := true, laidKinds := [.data], laidTests := true, laidLooks := .later }
def HeadShapesUptoCardSaid : Prop := Claim7.holds Tryd.pinned (.plain (OpenSpec.upto headShapesSpec)) headShapesUptoCard

/-- THE SECOND FORM's CARD OF 'stillroomlaw05.HeadFits'. -/
def headFitsUptoCard : Claim7 := { stood := { row := headFitsUptoRow, standIns := [], harness := (true, "ac9fab6949f4f917c88728672a2411a6bfe1a237abffbe9562594588626a8633"), looks := false }, kinds := [], alts := [], laidByText := true, laidKinds := [.data], laidTests := true, laidLooks := .later }
def HeadFitsUptoCardSaid : Prop := Claim7.holds Tryd.pinned (.plain (OpenSpec.upto headFitsSpec)) headFitsUptoCard

/-- THE SECOND FORM's CARD OF 'stillroomlaw05.HeadWords'. -/
def headWordsUptoCard : Claim7 := { stood := { row := headWordsUptoRow, standIns := [], harness := (true, "ac9fab6949f4f917c88728672a2411a6bfe1a237abffbe9562594588626a8633"), looks := false }, kinds := [], alts := [], laidByText := true, laidKinds := [.data], laidTests := true, laidLooks := .later }
def HeadWordsUptoCardSaid : Prop := Claim7.holds Tryd.pinned (.plain (OpenSpec.upto headWordsSpec)) headWordsUptoCard

/-- THE SECOND FORM's CARD OF 'stillroomlaw05.HeadRises'. -/
def headRisesUptoCard : Claim7 := { stood := { row := headRisesUptoRow, standIns := [], harness := (true, "ac9fab6949f4f917c88728672a2411a6bfe1a237abffbe9562594588626a8633"), looks := false }, kinds := [], alts := [], laidByText := true, laidKinds := [.data], laidTests := true, laidLooks := .later }
def HeadRisesUptoCardSaid : Prop := Claim7.holds Tryd.pinned (.plain (OpenSpec.upto headRisesSpec)) headRisesUptoCard

/-- THE SECOND FORM's CARD OF 'stillroomlaw05.HeadTurned'. -/
def headTurnedUptoCard : Claim7 := { stood := { row := headTurnedUptoRow, standIns := [], harness := (true, "ac9fab6949f4f917c88728672a2411a6bfe1a237abffbe9562594588626a8633"), looks := false }, kinds := [], alts := [], laidByText := true, laidKinds := [.data], laidTests := true, laidLooks := .later }
def HeadTurnedUptoCardSaid : Prop := Claim7.holds Tryd.pinned (.plain (OpenSpec.upto headTurnedSpec)) headTurnedUptoCard

/-- THE SECOND FORM's CARD OF 'stillroomlaw05.HeadOpens'. -/
def headOpensUptoCard : Claim7 := { stood := { row := headOpensUptoRow, standIns := [], harness := (true, "ac9fab6949f4f917c88728672a2411a6bfe1a237abffbe9562594588626a8633"), looks := false }, kinds := [], alts := [], laidByText := true, laidKinds := [.data], laidTests := true, laidLooks := .later }
def HeadOpensUptoCardSaid : Prop := Claim7.holds Tryd.pinned (.plain (OpenSpec.upto headOpensSpec)) headOpensUptoCard

/-- THE SECOND FORM's CARD OF 'stillroomlaw05.HeadFormats'. -/
def headFormatsUptoCard : Claim7 := { stood := { row := headFormatsUptoRow, standIns := [], harness := (true, "ac9fab6949f4f917c88728672a2411a6bfe1a237abffbe9562594588626a8633"), looks := false }, kinds := [], alts := [], laidByText := true, laidKinds := [.data], laidTests := true, laidLooks := .later }
def HeadFormatsUptoCardSaid : Prop := Claim7.holds Tryd.pinned (.plain (OpenSpec.upto headFormatsSpec)) headFormatsUptoCard

/-- THE SECOND FORM's CARD OF 'stillroomlaw05.HeadTorn'. -/
def headTornUptoCard : Claim7 := { stood := { row := headTornUptoRow, standIns := [], harness := (true, "ac9fab6949f4f917c88728672a2411a6bfe1a237abffbe9562594588626a8633"), looks := false }, kinds := [], alts := [], laidByText := true, laidKinds := [.data], laidTests := true, laidLooks := .later }
def HeadTornUptoCardSaid : Prop := Claim7.holds Tryd.pinned (.plain (OpenSpec.upto headTornSpec)) headTornUptoCard
end Rows
end Go.Proofs.YtfppphmlepdopaaDoor
