/-
  NARROWER THAN 'FOR EVERY INPUT', by the rows' own cells (each row's printed sentence says how): CrcTells: laid · CrcPieces: laid · CrcTurned: laid · CrcSums: laid · CrcZeros: laid · CrcByte: laid.
  DERIVED. THE GIVEN ROWS OF THIS SEAT. 6 by the template 'for every input the law returns true; each argument reads behind the call as it read before'; 0 by the template 'total and deterministic' (their statements: YtgdjnginljamoaaDoorTotals.lean).
  GIVEN WITH THE SEED: the statements are not yours to turn. If you find one false, say at which input.
  Laid BY PROGRAM, IN A SANDBOX (cutbox-rows.mjs): the forced cells as the released guide's own fill.sh prints them over the translation 9c2f355343bfddcb… (all of the seat's roots in one cut). By AI agents, Wed Nov 11 2026. No macro, syntax, notation, axiom, sorry.
-/
import Derived.Test.YtgdjnginljamoaaDoorChecked
import GoSem.Claim
import GoSem.ClaimJoined
import GoSem.ClaimMapViews
import Derived.JoinedTies
import Derived.KernelRfl
namespace Go.Proofs.YtgdjnginljamoaaDoor
/- THE CELL 'sum', in the pinned program and in every row, IS THE sha256 OF THE DUMP (.gsa) THAT YtgdjnginljamoaaDoorProg.lean LOADS. Nothing in Lean hashes anything: it is a label: what it is worth is what the hold of that sum in a sandbox is worth. -/
noncomputable def Tryd.pinned : Pinned := { name := "ytgdjnginljamoaadoor", sum := "9c2f355343bfddcb7cda0d61d496c259af718f527a644e28ebee1344b011dec6", checked := Tryd.checked }
namespace Rows
def none {H : Type} : Left H := { results := [], args := [] }

/- WHAT THE LISTED PACKAGE-LEVEL VARIABLES READ AS WHEN THE CALL BEGINS. Each datum BY PROGRAM (the guide's laid-datum.mjs) off the statement by which the dump's own 'gosem.cut.vars' lays the variable. In a bare row this is a premise. The card (YtgdjnginljamoaaDoorCards.lean) ties it to the program's text. -/
def laid_stillroom_crc_fours {H : Type} : DataW H := .agg [.lit (.int .u32 0), .lit (.int .u32 274646895), .lit (.int .u32 549293790), .lit (.int .u32 820201905), .lit (.int .u32 1098587580), .lit (.int .u32 1361435347), .lit (.int .u32 1640403810), .lit (.int .u32 1905808397), .lit (.int .u32 2197175160), .lit (.int .u32 2460548119), .lit (.int .u32 2722870694), .lit (.int .u32 2987750089), .lit (.int .u32 3280807620), .lit (.int .u32 3553878443), .lit (.int .u32 3811616794), .lit (.int .u32 4084100981)]

/-- 'stillroomlaw02.CrcTells': WHATEVER THE INPUT: true; the input reads as it did. -/
def crcTellsSpec : ChangeSpec := { name := "crcTells", fn := fun _ => fun
  | [d1, d2] => { results := [.lit (.bool true)], args := [d1, d2] }
  | _ => none }
def crcTellsRow : OpenClaim := { program := "ytgdjnginljamoaadoor", sum := "9c2f355343bfddcb7cda0d61d496c259af718f527a644e28ebee1344b011dec6", func := "stillroom/stillroomlaw02.CrcTells", spec := "crcTells", named := ["stillroom/crc.fours"], apart := false, laid := [("stillroom/crc.fours", laid_stillroom_crc_fours)] }
def CrcTellsSaid : Prop := crcTellsRow.holds Tryd.pinned (OpenSpec.ofChange crcTellsSpec)

/-- ITS FALSE NEIGHBOUR: 'it returns false'. Refute it at one input. -/
def crcTellsWrong : ChangeSpec := { name := "crcTells", fn := fun _ => fun
  | [d1, d2] => { results := [.lit (.bool false)], args := [d1, d2] }
  | _ => none }
def CrcTellsWrongFalsely : Prop := crcTellsRow.holds Tryd.pinned (OpenSpec.ofChange crcTellsWrong)

/-- 'stillroomlaw02.CrcPieces': WHATEVER THE INPUT: true; the input reads as it did. -/
def crcPiecesSpec : ChangeSpec := { name := "crcPieces", fn := fun _ => fun
  | [d] => { results := [.lit (.bool true)], args := [d] }
  | _ => none }
def crcPiecesRow : OpenClaim := { program := "ytgdjnginljamoaadoor", sum := "9c2f355343bfddcb7cda0d61d496c259af718f527a644e28ebee1344b011dec6", func := "stillroom/stillroomlaw02.CrcPieces", spec := "crcPieces", named := ["stillroom/crc.fours"], apart := false, laid := [("stillroom/crc.fours", laid_stillroom_crc_fours)] }
def CrcPiecesSaid : Prop := crcPiecesRow.holds Tryd.pinned (OpenSpec.ofChange crcPiecesSpec)

/-- ITS FALSE NEIGHBOUR: 'it returns false'. Refute it at one input. -/
def crcPiecesWrong : ChangeSpec := { name := "crcPieces", fn := fun _ => fun
  | [d] => { results := [.lit (.bool false)], args := [d] }
  | _ => none }
def CrcPiecesWrongFalsely : Prop := crcPiecesRow.holds Tryd.pinned (OpenSpec.ofChange crcPiecesWrong)

/-- 'stillroomlaw02.CrcTurned': WHATEVER THE INPUT: true; the input reads as it did. -/
def crcTurnedSpec : ChangeSpec := { name := "crcTurned", fn := fun _ => fun
  | [d1, d2, d3] => { results := [.lit (.bool true)], args := [d1, d2, d3] }
  | _ => none }
def crcTurnedRow : OpenClaim := { program := "ytgdjnginljamoaadoor", sum := "9c2f355343bfddcb7cda0d61d496c259af718f527a644e28ebee1344b011dec6", func := "stillroom/stillroomlaw02.CrcTurned", spec := "crcTurned", named := ["stillroom/crc.fours"], apart := false, laid := [("stillroom/crc.fours", laid_stillroom_crc_fours)] }
def CrcTurnedSaid : Prop := crcTurnedRow.holds Tryd.pinned (OpenSpec.ofChange crcTurnedSpec)

/-- ITS FALSE NEIGHBOUR: 'it returns false'. Refute it at one input. -/
def crcTurnedWrong : ChangeSpec := { name := "crcTurned", fn := fun _ => fun
  | [d1, d2, d3] => { results := [.lit (.bool false)], args := [d1, d2, d3] }
  | _ => none }
def CrcTurnedWrongFalsely : Prop := crcTurnedRow.holds Tryd.pinned (OpenSpec.ofChange crcTurnedWrong)

/-- 'stillroomlaw02.CrcSums': WHATEVER THE INPUT: true; the input reads as it did. -/
def crcSumsSpec : ChangeSpec := { name := "crcSums", fn := fun _ => fun
  | [d1, d2, d3] => { results := [.lit (.bool true)], args := [d1, d2, d3] }
  | _ => none }
def crcSumsRow : OpenClaim := { program := "ytgdjnginljamoaadoor", sum := "9c2f355343bfddcb7cda0d61d496c259af718f527a644e28ebee1344b011dec6", func := "stillroom/stillroomlaw02.CrcSums", spec := "crcSums", named := ["stillroom/crc.fours"], apart := false, laid := [("stillroom/crc.fours", laid_stillroom_crc_fours)] }
def CrcSumsSaid : Prop := crcSumsRow.holds Tryd.pinned (OpenSpec.ofChange crcSumsSpec)

/-- ITS FALSE NEIGHBOUR: 'it returns false'. Refute it at one input. -/
def crcSumsWrong : ChangeSpec := { name := "crcSums", fn := fun _ => fun
  | [d1, d2, d3] => { results := [.lit (.bool false)], args := [d1, d2, d3] }
  | _ => none }
def CrcSumsWrongFalsely : Prop := crcSumsRow.holds Tryd.pinned (OpenSpec.ofChange crcSumsWrong)

/-- 'stillroomlaw02.CrcZeros': WHATEVER THE INPUT: true; the input reads as it did. -/
def crcZerosSpec : ChangeSpec := { name := "crcZeros", fn := fun _ => fun
  | [d1, d2, d3] => { results := [.lit (.bool true)], args := [d1, d2, d3] }
  | _ => none }
def crcZerosRow : OpenClaim := { program := "ytgdjnginljamoaadoor", sum := "9c2f355343bfddcb7cda0d61d496c259af718f527a644e28ebee1344b011dec6", func := "stillroom/stillroomlaw02.CrcZeros", spec := "crcZeros", named := ["stillroom/crc.fours"], apart := false, laid := [("stillroom/crc.fours", laid_stillroom_crc_fours)] }
def CrcZerosSaid : Prop := crcZerosRow.holds Tryd.pinned (OpenSpec.ofChange crcZerosSpec)

/-- ITS FALSE NEIGHBOUR: 'it returns false'. Refute it at one input. -/
def crcZerosWrong : ChangeSpec := { name := "crcZeros", fn := fun _ => fun
  | [d1, d2, d3] => { results := [.lit (.bool false)], args := [d1, d2, d3] }
  | _ => none }
def CrcZerosWrongFalsely : Prop := crcZerosRow.holds Tryd.pinned (OpenSpec.ofChange crcZerosWrong)

/-- 'stillroomlaw02.CrcByte': WHATEVER THE INPUT: true; the input reads as it did. -/
def crcByteSpec : ChangeSpec := { name := "crcByte", fn := fun _ => fun
  | [d1, d2, d3] => { results := [.lit (.bool true)], args := [d1, d2, d3] }
  | _ => none }
def crcByteRow : OpenClaim := { program := "ytgdjnginljamoaadoor", sum := "9c2f355343bfddcb7cda0d61d496c259af718f527a644e28ebee1344b011dec6", func := "stillroom/stillroomlaw02.CrcByte", spec := "crcByte", named := ["stillroom/crc.fours"], apart := false, laid := [("stillroom/crc.fours", laid_stillroom_crc_fours)] }
def CrcByteSaid : Prop := crcByteRow.holds Tryd.pinned (OpenSpec.ofChange crcByteSpec)

/-- ITS FALSE NEIGHBOUR: 'it returns false'. Refute it at one input. -/
def crcByteWrong : ChangeSpec := { name := "crcByte", fn := fun _ => fun
  | [d1, d2, d3] => { results := [.lit (.bool false)], args := [d1, d2, d3] }
  | _ => none }
def CrcByteWrongFalsely : Prop := crcByteRow.holds Tryd.pinned (OpenSpec.ofChange crcByteWrong)

/- THE SECOND FORM. 'bulk': how many values and letters a reading holds, each counted each time it is reached (what is shared counts as often as it is met; a slice's spare places count too). A statement '..UptoSaid' is the law's where the arguments, and the package variables that the reading takes, are together of bulk at most 1048576: NARROWER than '..Said'. Prove '..Said' where nothing that the law and all that it calls make is longer than what came in: it says more and counts as full. Else prove '..UptoSaid'. A law counts once. -/
mutual
def uptoBulk {H : Type} : DataW H → Nat
  | .lit (.string bytes) => bytes.length + 1
  | .lit _ => 1
  | .nil => 1
  | .ptr d => uptoBulk d + 1
  | .slice elems spare => uptoBulkAll elems + uptoBulkAll spare + 1
  | .agg parts => uptoBulkAll parts + 1
  | .iface _ d => uptoBulk d + 1
  | .map entries => uptoBulkEntries entries + 1
  | .held _ => 1
def uptoBulkAll {H : Type} : List (DataW H) → Nat
  | [] => 0
  | d :: r => uptoBulk d + uptoBulkAll r
def uptoBulkEntries {H : Type} : List (Lit × DataW H) → Nat
  | [] => 0
  | x :: r => uptoBulkEntry x + uptoBulkEntries r
def uptoBulkEntry {H : Type} : Lit × DataW H → Nat
  | (.string bytes, d) => bytes.length + uptoBulk d + 1
  | (_, d) => uptoBulk d + 1
 end
def uptoSmall : (H : Type) → List (DataW H) → Bool := fun _ ds => decide (uptoBulkAll ds ≤ 1048576)
def OpenSpec.upto (s : _root_.Go.ChangeSpec) : _root_.Go.OpenSpec := { _root_.Go.OpenSpec.ofChange s with cond := some uptoSmall }

/-- 'stillroomlaw02.CrcTells', WHERE WHAT IT READS IS OF BULK AT MOST 1048576: true; the input reads as it did. -/
def crcTellsUptoRow : OpenClaim := { program := "ytgdjnginljamoaadoor", sum := "9c2f355343bfddcb7cda0d61d496c259af718f527a644e28ebee1344b011dec6", func := "stillroom/stillroomlaw02.CrcTells", spec := "crcTells", named := ["stillroom/crc.fours"], apart := false, laid := [("stillroom/crc.fours", laid_stillroom_crc_fours)], narrowed := true }
def CrcTellsUptoSaid : Prop := crcTellsUptoRow.holds Tryd.pinned (OpenSpec.upto crcTellsSpec)

/-- 'stillroomlaw02.CrcPieces', WHERE WHAT IT READS IS OF BULK AT MOST 1048576: true; the input reads as it did. -/
def crcPiecesUptoRow : OpenClaim := { program := "ytgdjnginljamoaadoor", sum := "9c2f355343bfddcb7cda0d61d496c259af718f527a644e28ebee1344b011dec6", func := "stillroom/stillroomlaw02.CrcPieces", spec := "crcPieces", named := ["stillroom/crc.fours"], apart := false, laid := [("stillroom/crc.fours", laid_stillroom_crc_fours)], narrowed := true }
def CrcPiecesUptoSaid : Prop := crcPiecesUptoRow.holds Tryd.pinned (OpenSpec.upto crcPiecesSpec)

/-- 'stillroomlaw02.CrcTurned', WHERE WHAT IT READS IS OF BULK AT MOST 1048576: true; the input reads as it did. -/
def crcTurnedUptoRow : OpenClaim := { program := "ytgdjnginljamoaadoor", sum := "9c2f355343bfddcb7cda0d61d496c259af718f527a644e28ebee1344b011dec6", func := "stillroom/stillroomlaw02.CrcTurned", spec := "crcTurned", named := ["stillroom/crc.fours"], apart := false, laid := [("stillroom/crc.fours", laid_stillroom_crc_fours)], narrowed := true }
def CrcTurnedUptoSaid : Prop := crcTurnedUptoRow.holds Tryd.pinned (OpenSpec.upto crcTurnedSpec)

/-- 'stillroomlaw02.CrcSums', WHERE WHAT IT READS IS OF BULK AT MOST 1048576: true; the input reads as it did. -/
def crcSumsUptoRow : OpenClaim := { program := "ytgdjnginljamoaadoor", sum := "9c2f355343bfddcb7cda0d61d496c259af718f527a644e28ebee1344b011dec6", func := "stillroom/stillroomlaw02.CrcSums", spec := "crcSums", named := ["stillroom/crc.fours"], apart := false, laid := [("stillroom/crc.fours", laid_stillroom_crc_fours)], narrowed := true }
def CrcSumsUptoSaid : Prop := crcSumsUptoRow.holds Tryd.pinned (OpenSpec.upto crcSumsSpec)

/-- 'stillroomlaw02.CrcZeros', WHERE WHAT IT READS IS OF BULK AT MOST 1048576: true; the input reads as it did. -/
def crcZerosUptoRow : OpenClaim := { program := "ytgdjnginljamoaadoor", sum := "9c2f355343bfddcb7cda0d61d496c259af718f527a644e28ebee1344b011dec6", func := "stillroom/stillroomlaw02.CrcZeros", spec := "crcZeros", named := ["stillroom/crc.fours"], apart := false, laid := [("stillroom/crc.fours", laid_stillroom_crc_fours)], narrowed := true }
def CrcZerosUptoSaid : Prop := crcZerosUptoRow.holds Tryd.pinned (OpenSpec.upto crcZerosSpec)

/-- 'stillroomlaw02.CrcByte', WHERE WHAT IT READS IS OF BULK AT MOST 1048576: true; the input reads as it did. -/
def crcByteUptoRow : OpenClaim := { program := "ytgdjnginljamoaadoor", sum := "9c2f355343bfddcb7cda0d61d496c259af718f527a644e28ebee1344b011dec6", func := "stillroom/stillroomlaw02.CrcByte", spec := "crcByte", named := ["stillroom/crc.fours"], apart := false, laid := [("stillroom/crc.fours", laid_stillroom_crc_fours)], narrowed := true }
def CrcByteUptoSaid : Prop := crcByteUptoRow.holds Tryd.pinned (OpenSpec.upto crcByteSpec)

end Rows
end Go.Proofs.YtgdjnginljamoaaDoor
