/-
  NARROWER THAN 'FOR EVERY INPUT', by the rows' own cells (each row's printed sentence says how): HeadShapes: laid · HeadFits: laid · HeadWords: laid · HeadRises: laid · HeadTurned: laid · HeadOpens: laid · HeadFormats: laid · HeadTorn: laid.
  DERIVED. THE GIVEN ROWS OF THIS SEAT. 8 by the template 'for every input the law returns true; each argument reads behind the call as it read before'; 0 by the template 'total and deterministic' (their statements: YtfppphmlepdopaaDoorTotals.lean).
  GIVEN WITH THE SEED: the statements are not yours to turn. If you find one false, say at which input.
  Laid BY PROGRAM, IN A SANDBOX (cutbox-rows.mjs): the forced cells as the released guide's own fill.sh prints them over the translation bf2cc71b93ec9852… (all of the seat's roots in one cut). By AI agents, Wed Nov 11 2026. No macro, syntax, notation, axiom, sorry.
-/
import Derived.Test.YtfppphmlepdopaaDoorChecked
import GoSem.Claim
import GoSem.ClaimJoined
import GoSem.ClaimMapViews
import Derived.JoinedTies
import Derived.KernelRfl
namespace Go.Proofs.YtfppphmlepdopaaDoor
/- THE CELL 'sum', in the pinned program and in every row, IS THE sha256 OF THE DUMP (.gsa) THAT YtfppphmlepdopaaDoorProg.lean LOADS. Nothing in Lean hashes anything: it is a label: what it is worth is what the hold of that sum in a sandbox is worth. -/
noncomputable def Tryd.pinned : Pinned := { name := "ytfppphmlepdopaadoor", sum := "bf2cc71b93ec985215a2807ee24020810ccb6ab5ba81171594f9c214f417e4cc", checked := Tryd.checked }
namespace Rows
def none {H : Type} : Left H := { results := [], args := [] }

/- WHAT THE LISTED PACKAGE-LEVEL VARIABLES READ AS WHEN THE CALL BEGINS. Each datum BY PROGRAM (the guide's laid-datum.mjs) off the statement by which the dump's own 'gosem.cut.vars' lays the variable. In a bare row this is a premise. The card (YtfppphmlepdopaaDoorCards.lean) ties it to the program's text. -/
def laid_stillroom_crc_fours {H : Type} : DataW H := .agg [.lit (.int .u32 0), .lit (.int .u32 274646895), .lit (.int .u32 549293790), .lit (.int .u32 820201905), .lit (.int .u32 1098587580), .lit (.int .u32 1361435347), .lit (.int .u32 1640403810), .lit (.int .u32 1905808397), .lit (.int .u32 2197175160), .lit (.int .u32 2460548119), .lit (.int .u32 2722870694), .lit (.int .u32 2987750089), .lit (.int .u32 3280807620), .lit (.int .u32 3553878443), .lit (.int .u32 3811616794), .lit (.int .u32 4084100981)]

/-- 'stillroomlaw05.HeadShapes': WHATEVER THE INPUT: true; the input reads as it did. -/
def headShapesSpec : ChangeSpec := { name := "headShapes", fn := fun _ => fun
  | [d1, d2] => { results := [.lit (.bool true)], args := [d1, d2] }
  | _ => none }
def headShapesRow : OpenClaim := { program := "ytfppphmlepdopaadoor", sum := "bf2cc71b93ec985215a2807ee24020810ccb6ab5ba81171594f9c214f417e4cc", func := "stillroom/stillroomlaw05.HeadShapes", spec := "headShapes", unfollowed := true, recurses := true, named := ["stillroom/crc.fours"], apart := false, laid := [("stillroom/crc.fours", laid_stillroom_crc_fours)] }
def HeadShapesSaid : Prop := headShapesRow.holds Tryd.pinned (OpenSpec.ofChange headShapesSpec)

/-- ITS FALSE NEIGHBOUR: 'it returns false'. Refute it at one input. -/
def headShapesWrong : ChangeSpec := { name := "headShapes", fn := fun _ => fun
  | [d1, d2] => { results := [.lit (.bool false)], args := [d1, d2] }
  | _ => none }
def HeadShapesWrongFalsely : Prop := headShapesRow.holds Tryd.pinned (OpenSpec.ofChange headShapesWrong)

/-- 'stillroomlaw05.HeadFits': WHATEVER THE INPUT: true; the input reads as it did. -/
def headFitsSpec : ChangeSpec := { name := "headFits", fn := fun _ => fun
  | [d] => { results := [.lit (.bool true)], args := [d] }
  | _ => none }
def headFitsRow : OpenClaim := { program := "ytfppphmlepdopaadoor", sum := "bf2cc71b93ec985215a2807ee24020810ccb6ab5ba81171594f9c214f417e4cc", func := "stillroom/stillroomlaw05.HeadFits", spec := "headFits", unfollowed := true, recurses := true, named := ["stillroom/crc.fours"], apart := false, laid := [("stillroom/crc.fours", laid_stillroom_crc_fours)] }
def HeadFitsSaid : Prop := headFitsRow.holds Tryd.pinned (OpenSpec.ofChange headFitsSpec)

/-- ITS FALSE NEIGHBOUR: 'it returns false'. Refute it at one input. -/
def headFitsWrong : ChangeSpec := { name := "headFits", fn := fun _ => fun
  | [d] => { results := [.lit (.bool false)], args := [d] }
  | _ => none }
def HeadFitsWrongFalsely : Prop := headFitsRow.holds Tryd.pinned (OpenSpec.ofChange headFitsWrong)

/-- 'stillroomlaw05.HeadWords': WHATEVER THE INPUT: true; the input reads as it did. -/
def headWordsSpec : ChangeSpec := { name := "headWords", fn := fun _ => fun
  | [d1, d2] => { results := [.lit (.bool true)], args := [d1, d2] }
  | _ => none }
def headWordsRow : OpenClaim := { program := "ytfppphmlepdopaadoor", sum := "bf2cc71b93ec985215a2807ee24020810ccb6ab5ba81171594f9c214f417e4cc", func := "stillroom/stillroomlaw05.HeadWords", spec := "headWords", unfollowed := true, recurses := true, named := ["stillroom/crc.fours"], apart := false, laid := [("stillroom/crc.fours", laid_stillroom_crc_fours)] }
def HeadWordsSaid : Prop := headWordsRow.holds Tryd.pinned (OpenSpec.ofChange headWordsSpec)

/-- ITS FALSE NEIGHBOUR: 'it returns false'. Refute it at one input. -/
def headWordsWrong : ChangeSpec := { name := "headWords", fn := fun _ => fun
  | [d1, d2] => { results := [.lit (.bool false)], args := [d1, d2] }
  | _ => none }
def HeadWordsWrongFalsely : Prop := headWordsRow.holds Tryd.pinned (OpenSpec.ofChange headWordsWrong)

/-- 'stillroomlaw05.HeadRises': WHATEVER THE INPUT: true; the input reads as it did. -/
def headRisesSpec : ChangeSpec := { name := "headRises", fn := fun _ => fun
  | [d] => { results := [.lit (.bool true)], args := [d] }
  | _ => none }
def headRisesRow : OpenClaim := { program := "ytfppphmlepdopaadoor", sum := "bf2cc71b93ec985215a2807ee24020810ccb6ab5ba81171594f9c214f417e4cc", func := "stillroom/stillroomlaw05.HeadRises", spec := "headRises", unfollowed := true, recurses := true, named := ["stillroom/crc.fours"], apart := false, laid := [("stillroom/crc.fours", laid_stillroom_crc_fours)] }
def HeadRisesSaid : Prop := headRisesRow.holds Tryd.pinned (OpenSpec.ofChange headRisesSpec)

/-- ITS FALSE NEIGHBOUR: 'it returns false'. Refute it at one input. -/
def headRisesWrong : ChangeSpec := { name := "headRises", fn := fun _ => fun
  | [d] => { results := [.lit (.bool false)], args := [d] }
  | _ => none }
def HeadRisesWrongFalsely : Prop := headRisesRow.holds Tryd.pinned (OpenSpec.ofChange headRisesWrong)

/-- 'stillroomlaw05.HeadTurned': WHATEVER THE INPUT: true; the input reads as it did. -/
def headTurnedSpec : ChangeSpec := { name := "headTurned", fn := fun _ => fun
  | [d1, d2, d3] => { results := [.lit (.bool true)], args := [d1, d2, d3] }
  | _ => none }
def headTurnedRow : OpenClaim := { program := "ytfppphmlepdopaadoor", sum := "bf2cc71b93ec985215a2807ee24020810ccb6ab5ba81171594f9c214f417e4cc", func := "stillroom/stillroomlaw05.HeadTurned", spec := "headTurned", unfollowed := true, recurses := true, named := ["stillroom/crc.fours"], apart := false, laid := [("stillroom/crc.fours", laid_stillroom_crc_fours)] }
def HeadTurnedSaid : Prop := headTurnedRow.holds Tryd.pinned (OpenSpec.ofChange headTurnedSpec)

/-- ITS FALSE NEIGHBOUR: 'it returns false'. Refute it at one input. -/
def headTurnedWrong : ChangeSpec := { name := "headTurned", fn := fun _ => fun
  | [d1, d2, d3] => { results := [.lit (.bool false)], args := [d1, d2, d3] }
  | _ => none }
def HeadTurnedWrongFalsely : Prop := headTurnedRow.holds Tryd.pinned (OpenSpec.ofChange headTurnedWrong)

/-- 'stillroomlaw05.HeadOpens': WHATEVER THE INPUT: true; the input reads as it did. -/
def headOpensSpec : ChangeSpec := { name := "headOpens", fn := fun _ => fun
  | [d] => { results := [.lit (.bool true)], args := [d] }
  | _ => none }
def headOpensRow : OpenClaim := { program := "ytfppphmlepdopaadoor", sum := "bf2cc71b93ec985215a2807ee24020810ccb6ab5ba81171594f9c214f417e4cc", func := "stillroom/stillroomlaw05.HeadOpens", spec := "headOpens", unfollowed := true, recurses := true, named := ["stillroom/crc.fours"], apart := false, laid := [("stillroom/crc.fours", laid_stillroom_crc_fours)] }
def HeadOpensSaid : Prop := headOpensRow.holds Tryd.pinned (OpenSpec.ofChange headOpensSpec)

/-- ITS FALSE NEIGHBOUR: 'it returns false'. Refute it at one input. -/
def headOpensWrong : ChangeSpec := { name := "headOpens", fn := fun _ => fun
  | [d] => { results := [.lit (.bool false)], args := [d] }
  | _ => none }
def HeadOpensWrongFalsely : Prop := headOpensRow.holds Tryd.pinned (OpenSpec.ofChange headOpensWrong)

/-- 'stillroomlaw05.HeadFormats': WHATEVER THE INPUT: true; the input reads as it did. -/
def headFormatsSpec : ChangeSpec := { name := "headFormats", fn := fun _ => fun
  | [d1, d2, d3] => { results := [.lit (.bool true)], args := [d1, d2, d3] }
  | _ => none }
def headFormatsRow : OpenClaim := { program := "ytfppphmlepdopaadoor", sum := "bf2cc71b93ec985215a2807ee24020810ccb6ab5ba81171594f9c214f417e4cc", func := "stillroom/stillroomlaw05.HeadFormats", spec := "headFormats", unfollowed := true, recurses := true, named := ["stillroom/crc.fours"], apart := false, laid := [("stillroom/crc.fours", laid_stillroom_crc_fours)] }
def HeadFormatsSaid : Prop := headFormatsRow.holds Tryd.pinned (OpenSpec.ofChange headFormatsSpec)

/-- ITS FALSE NEIGHBOUR: 'it returns false'. Refute it at one input. -/
def headFormatsWrong : ChangeSpec := { name := "headFormats", fn := fun _ => fun
  | [d1, d2, d3] => { results := [.lit (.bool false)], args := [d1, d2, d3] }
  | _ => none }
def HeadFormatsWrongFalsely : Prop := headFormatsRow.holds Tryd.pinned (OpenSpec.ofChange headFormatsWrong)

/-- 'stillroomlaw05.HeadTorn': WHATEVER THE INPUT: true; the input reads as it did. -/
def headTornSpec : ChangeSpec := { name := "headTorn", fn := fun _ => fun
  | [d1, d2, d3] => { results := [.lit (.bool true)], args := [d1, d2, d3] }
  | _ => none }
def headTornRow : OpenClaim := { program := "ytfppphmlepdopaadoor", sum := "bf2cc71b93ec985215a2807ee24020810ccb6ab5ba81171594f9c214f417e4cc", func := "stillroom/stillroomlaw05.HeadTorn", spec := "headTorn", unfollowed := true, recurses := true, named := ["stillroom/crc.fours"], apart := false, laid := [("stillroom/crc.fours", laid_stillroom_crc_fours)] }
def HeadTornSaid : Prop := headTornRow.holds Tryd.pinned (OpenSpec.ofChange headTornSpec)

/-- ITS FALSE NEIGHBOUR: 'it returns false'. Refute it at one input. -/
def headTornWrong : ChangeSpec := { name := "headTorn", fn := fun _ => fun
  | [d1, d2, d3] => { results := [.lit (.bool false)], args := [d1, d2, d3] }
  | _ => none }
def HeadTornWrongFalsely : Prop := headTornRow.holds Tryd.pinned (OpenSpec.ofChange headTornWrong)

/- THE SECOND FORM. 'bulk': how many values and letters a reading holds, each counted each time it is reached (what is shared counts as often as it is met; a slice's spare places count too). A statement '..UptoSaid' is the law's where the arguments, and the package variables that the reading takes, are together of bulk at most 1048576: NARROWER than '..Said'. Prove '..Said' where nothing that the law and all that it calls make is longer than what came in: it says more and counts as full. Else prove '..UptoSaid'. A law counts once. -/
mutual
def uptoBulk {H : Type} : DataW H → Nat
  | .lit (.string bytes) => bytes.length + 1
  | .lit _ => 1
  | .nil => 1
  | .ptr d => uptoBulk d + 1
  | .slice elems spare => uptoBulkAll elems + uptoBulkAll spare + 1
  | .agg parts => uptoBulkAll parts + 1
  | .iface _ d => uptoBulk d + 1
  | .map entries => uptoBulkEntries entries + 1
  | .held _ => 1
def uptoBulkAll {H : Type} : List (DataW H) → Nat
  | [] => 0
  | d :: r => uptoBulk d + uptoBulkAll r
def uptoBulkEntries {H : Type} : List (Lit × DataW H) → Nat
  | [] => 0
  | x :: r => uptoBulkEntry x + uptoBulkEntries r
def uptoBulkEntry {H : Type} : Lit × DataW H → Nat
  | (.string bytes, d) => bytes.length + uptoBulk d + 1
  | (_, d) => uptoBulk d + 1
 end
def uptoSmall : (H : Type) → List (DataW H) → Bool := fun _ ds => decide (uptoBulkAll ds ≤ 1048576)
def OpenSpec.upto (s : _root_.Go.ChangeSpec) : _root_.Go.OpenSpec := { _root_.Go.OpenSpec.ofChange s with cond := some uptoSmall }

/-- 'stillroomlaw05.HeadShapes', WHERE WHAT IT READS IS OF BULK AT MOST 1048576: true; the input reads as it did. -/
def headShapesUptoRow : OpenClaim := { program := "ytfppphmlepdopaadoor", sum := "bf2cc71b93ec985215a2807ee24020810ccb6ab5ba81171594f9c214f417e4cc", func := "stillroom/stillroomlaw05.HeadShapes", spec := "headShapes", unfollowed := true, recurses := true, named := ["stillroom/crc.fours"], apart := false, laid := [("stillroom/crc.fours", laid_stillroom_crc_fours)], narrowed := true }
def HeadShapesUptoSaid : Prop := headShapesUptoRow.holds Tryd.pinned (OpenSpec.upto headShapesSpec)

/-- 'stillroomlaw05.HeadFits', WHERE WHAT IT READS IS OF BULK AT MOST 1048576: true; the input reads as it did. -/
def headFitsUptoRow : OpenClaim := { program := "ytfppphmlepdopaadoor", sum := "bf2cc71b93ec985215a2807ee24020810ccb6ab5ba81171594f9c214f417e4cc", func := "stillroom/stillroomlaw05.HeadFits", spec := "headFits", unfollowed := true, recurses := true, named := ["stillroom/crc.fours"], apart := false, laid := [("stillroom/crc.fours", laid_stillroom_crc_fours)], narrowed := true }
def HeadFitsUptoSaid : Prop := headFitsUptoRow.holds Tryd.pinned (OpenSpec.upto headFitsSpec)

/-- 'stillroomlaw05.HeadWords', WHERE WHAT IT READS IS OF BULK AT MOST 1048576: true; the input reads as it did. -/
def headWordsUptoRow : OpenClaim := { program := "ytfppphmlepdopaadoor", sum := "bf2cc71b93ec985215a2807ee24020810ccb6ab5ba81171594f9c214f417e4cc", func := "stillroom/stillroomlaw05.HeadWords", spec := "headWords", unfollowed := true, recurses := true, named := ["stillroom/crc.fours"], apart := false, laid := [("stillroom/crc.fours", laid_stillroom_crc_fours)], narrowed := true }
def HeadWordsUptoSaid : Prop := headWordsUptoRow.holds Tryd.pinned (OpenSpec.upto headWordsSpec)

/-- 'stillroomlaw05.HeadRises', WHERE WHAT IT READS IS OF BULK AT MOST 1048576: true; the input reads as it did. -/
def headRisesUptoRow : OpenClaim := { program := "ytfppphmlepdopaadoor", sum := "bf2cc71b93ec985215a2807ee24020810ccb6ab5ba81171594f9c214f417e4cc", func := "stillroom/stillroomlaw05.HeadRises", spec := "headRises", unfollowed := true, recurses := true, named := ["stillroom/crc.fours"], apart := false, laid := [("stillroom/crc.fours", laid_stillroom_crc_fours)], narrowed := true }
def HeadRisesUptoSaid : Prop := headRisesUptoRow.holds Tryd.pinned (OpenSpec.upto headRisesSpec)

/-- 'stillroomlaw05.HeadTurned', WHERE WHAT IT READS IS OF BULK AT MOST 1048576: true; the input reads as it did. -/
def headTurnedUptoRow : OpenClaim := { program := "ytfppphmlepdopaadoor", sum := "bf2cc71b93ec985215a2807ee24020810ccb6ab5ba81171594f9c214f417e4cc", func := "stillroom/stillroomlaw05.HeadTurned", spec := "headTurned", unfollowed := true, recurses := true, named := ["stillroom/crc.fours"], apart := false, laid := [("stillroom/crc.fours", laid_stillroom_crc_fours)], narrowed := true }
def HeadTurnedUptoSaid : Prop := headTurnedUptoRow.holds Tryd.pinned (OpenSpec.upto headTurnedSpec)

/-- 'stillroomlaw05.HeadOpens', WHERE WHAT IT READS IS OF BULK AT MOST 1048576: true; the input reads as it did. -/
def headOpensUptoRow : OpenClaim := { program := "ytfppphmlepdopaadoor", sum := "bf2cc71b93ec985215a2807ee24020810ccb6ab5ba81171594f9c214f417e4cc", func := "stillroom/stillroomlaw05.HeadOpens", spec := "headOpens", unfollowed := true, recurses := true, named := ["stillroom/crc.fours"], apart := false, laid := [("stillroom/crc.fours", laid_stillroom_crc_fours)], narrowed := true }
def HeadOpensUptoSaid : Prop := headOpensUptoRow.holds Tryd.pinned (OpenSpec.upto headOpensSpec)

/-- 'stillroomlaw05.HeadFormats', WHERE WHAT IT READS IS OF BULK AT MOST 1048576: true; the input reads as it did. -/
def headFormatsUptoRow : OpenClaim := { program := "ytfppphmlepdopaadoor", sum := "bf2cc71b93ec985215a2807ee24020810ccb6ab5ba81171594f9c214f417e4cc", func := "stillroom/stillroomlaw05.HeadFormats", spec := "headFormats", unfollowed := true, recurses := true, named := ["stillroom/crc.fours"], apart := false, laid := [("stillroom/crc.fours", laid_stillroom_crc_fours)], narrowed := true }
def HeadFormatsUptoSaid : Prop := headFormatsUptoRow.holds Tryd.pinned (OpenSpec.upto headFormatsSpec)

/-- 'stillroomlaw05.HeadTorn', WHERE WHAT IT READS IS OF BULK AT MOST 1048576: true; the input reads as it did. -/
def headTornUptoRow : OpenClaim := { program := "ytfppphmlepdopaadoor", sum := "bf2cc71b93ec985215a2807ee24020810ccb6ab5ba81171594f9c214f417e4cc", func := "stillroom/stillroomlaw05.HeadTorn", spec := "headTorn", unfollowed := true, recurses := true, named := ["stillroom/crc.fours"], apart := false, laid := [("stillroom/crc.fours", laid_stillroom_crc_fours)], narrowed := true }
def HeadTornUptoSaid : Prop := headTornUptoRow.holds Tryd.pinned (OpenSpec.upto headTornSpec)

end Rows
end Go.Proofs.YtfppphmlepdopaaDoor
