/-
  DERIVED. GIVEN WITH THE SEED: THE CARDS: each row of YtcpackbljaabnaaDoorRows.lean that lists a variable, with what it lists TIED to the program's text (the seventh form; the later family's looks); each row that meets fmt, with fmt's text TOLD by the authors' own Lean function (tested against real Go, not proved from fmt's source: count such statements apart). THE CARD IS WHAT COUNTS. Prove the row's statement (the work); the ties are given (YtcpackbljaabnaaDoorTie.lean); close each card by the builder's one call (the guide's Derived/Test/ToyasCard.lean, 'card_holds'). Laid BY PROGRAM, IN A SANDBOX (cutbox-door.mjs). By AI agents, Wed Nov 11 2026. No macro, syntax, notation, axiom, sorry.
-/
import Derived.Test.YtcpackbljaabnaaDoorRows
import GoSem.ClaimSeven
namespace Go.Proofs.YtcpackbljaabnaaDoor
namespace Rows

/-- THE TIED CARD OF 'stillroomlaw07.PoolApart'. -/
def poolApartCard : Claim7 := { stood := { row := poolApartRow, standIns := [], harness := (true, "ab97f1573ddac417d23fc65422ed0ec823d0bae5f9f90b112488afbe34261450"), looks := true }, kinds := [], alts := [], laidByText := true, laidKinds := [.data, .data], laidTests := true, laidLooks := .later }
def PoolApartCardSaid : Prop := Claim7.holds Tryd.pinned (.plain (OpenSpec.ofChange poolApartSpec)) poolApartCard

/-- THE TIED CARD OF 'stillroomlaw07.PoolCorrupt'. -/
def poolCorruptCard : Claim7 := { stood := { row := poolCorruptRow, standIns := [], harness := (true, "ab97f1573ddac417d23fc65422ed0ec823d0bae5f9f90b112488afbe34261450"), looks := true }, kinds := [], alts := [], laidByText := true, laidKinds := [.data, .data], laidTests := true, laidLooks := .later }
def PoolCorruptCardSaid : Prop := Claim7.holds Tryd.pinned (.plain (OpenSpec.ofChange poolCorruptSpec)) poolCorruptCard

/-- THE TIED CARD OF 'stillroomlaw07.PoolNobody'. -/
def poolNobodyCard : Claim7 := { stood := { row := poolNobodyRow, standIns := [], harness := (true, "ab97f1573ddac417d23fc65422ed0ec823d0bae5f9f90b112488afbe34261450"), looks := true }, kinds := [], alts := [], laidByText := true, laidKinds := [.data, .data], laidTests := true, laidLooks := .later }
def PoolNobodyCardSaid : Prop := Claim7.holds Tryd.pinned (.plain (OpenSpec.ofChange poolNobodySpec)) poolNobodyCard

/-- THE TIED CARD OF 'stillroomlaw07.PoolFills'. -/
def poolFillsCard : Claim7 := { stood := { row := poolFillsRow, standIns := [], harness := (true, "ab97f1573ddac417d23fc65422ed0ec823d0bae5f9f90b112488afbe34261450"), looks := true }, kinds := [], alts := [], laidByText := true, laidKinds := [.data, .data], laidTests := true, laidLooks := .later }
def PoolFillsCardSaid : Prop := Claim7.holds Tryd.pinned (.plain (OpenSpec.ofChange poolFillsSpec)) poolFillsCard

/-- THE TIED CARD OF 'stillroomlaw07.PoolAgain'. -/
def poolAgainCard : Claim7 := { stood := { row := poolAgainRow, standIns := [], harness := (true, "ab97f1573ddac417d23fc65422ed0ec823d0bae5f9f90b112488afbe34261450"), looks := true }, kinds := [], alts := [], laidByText := true, laidKinds := [.data, .data], laidTests := true, laidLooks := .later }
def PoolAgainCardSaid : Prop := Claim7.holds Tryd.pinned (.plain (OpenSpec.ofChange poolAgainSpec)) poolAgainCard

/-- THE TIED CARD OF 'stillroomlaw07.PoolDurable'. -/
def poolDurableCard : Claim7 := { stood := { row := poolDurableRow, standIns := [], harness := (true, "ab97f1573ddac417d23fc65422ed0ec823d0bae5f9f90b112488afbe34261450"), looks := true }, kinds := [], alts := [], laidByText := true, laidKinds := [.data, .data], laidTests := true, laidLooks := .later }
def PoolDurableCardSaid : Prop := Claim7.holds Tryd.pinned (.plain (OpenSpec.ofChange poolDurableSpec)) poolDurableCard

/-- THE SECOND FORM's CARD OF 'stillroomlaw07.PoolApart'. -/
def poolApartUptoCard : Claim7 := { stood := { row := poolApartUptoRow, standIns := [], harness := (true, "ab97f1573ddac417d23fc65422ed0ec823d0bae5f9f90b112488afbe34261450"), looks := true }, kinds := [], alts := [], laidByText := true, laidKinds := [.data, .data], laidTests := true, laidLooks := .later }
def PoolApartUptoCardSaid : Prop := Claim7.holds Tryd.pinned (.plain (OpenSpec.upto poolApartSpec)) poolApartUptoCard

/-- THE SECOND FORM's CARD OF 'stillroomlaw07.PoolCorrupt'. -/
def poolCorruptUptoCard : Claim7 := { stood := { row := poolCorruptUptoRow, standIns := [], harness := (true, "ab97f1573ddac417d23fc65422ed0ec823d0bae5f9f90b112488afbe34261450"), looks := true }, kinds := [], alts := [], laidByText := true, laidKinds := [.data, .data], laidTests := true, laidLooks := .later }
def PoolCorruptUptoCardSaid : Prop := Claim7.holds Tryd.pinned (.plain (OpenSpec.upto poolCorruptSpec)) poolCorruptUptoCard

/-- THE SECOND FORM's CARD OF 'stillroomlaw07.PoolNobody'. -/
def poolNobodyUptoCard : Claim7 := { stood := { row := poolNobodyUptoRow, standIns := [], harness := (true, "ab97f1573ddac417d23fc65422ed0ec823d0bae5f9f90b112488afbe34261450"), looks := true }, kinds := [], alts := [], laidByText := true, laidKinds := [.data, .data], laidTests := true, laidLooks := .later }
def PoolNobodyUptoCardSaid : Prop := Claim7.holds Tryd.pinned (.plain (OpenSpec.upto poolNobodySpec)) poolNobodyUptoCard

/-- THE SECOND FORM's CARD OF 'stillroomlaw07.PoolFills'. -/
def poolFillsUptoCard : Claim7 := { stood := { row := poolFillsUptoRow, standIns := [], harness := (true, "ab97f1573ddac417d23fc65422ed0ec823d0bae5f9f90b112488afbe34261450"), looks := true }, kinds := [], alts := [], laidByText := true, laidKinds := [.data, .data], laidTests := true, laidLooks := .later }
def PoolFillsUptoCardSaid : Prop := Claim7.holds Tryd.pinned (.plain (OpenSpec.upto poolFillsSpec)) poolFillsUptoCard

/-- THE SECOND FORM's CARD OF 'stillroomlaw07.PoolAgain'. -/
def poolAgainUptoCard : Claim7 := { stood := { row := poolAgainUptoRow, standIns := [], harness := (true, "ab97f1573ddac417d23fc65422ed0ec823d0bae5f9f90b112488afbe34261450"), looks := true }, kinds := [], alts := [], laidByText := true, laidKinds := [.data, .data], laidTests := true, laidLooks := .later }
def PoolAgainUptoCardSaid : Prop := Claim7.holds Tryd.pinned (.plain (OpenSpec.upto poolAgainSpec)) poolAgainUptoCard

/-- THE SECOND FORM's CARD OF 'stillroomlaw07.PoolDurable'. -/
def poolDurableUptoCard : Claim7 := { stood := { row := poolDurableUptoRow, standIns := [], harness := (true, "ab97f1573ddac417d23fc65422ed0ec823d0bae5f9f90b112488afbe34261450"), looks := true }, kinds := [], alts := [], laidByText := true, laidKinds := [.data, .data], laidTests := true, laidLooks := .later }
def PoolDurableUptoCardSaid : Prop := Claim7.holds Tryd.pinned (.plain (OpenSpec.upto poolDurableSpec)) poolDurableUptoCard
end Rows
end Go.Proofs.YtcpackbljaabnaaDoor
