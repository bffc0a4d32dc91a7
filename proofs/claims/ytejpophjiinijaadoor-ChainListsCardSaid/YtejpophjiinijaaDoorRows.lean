/-
  NARROWER THAN 'FOR EVERY INPUT', by the rows' own cells (each row's printed sentence says how): ChainSees: laid · ChainTrims: laid · ChainCorrupt: laid · ChainPast: laid · ChainNeeds: laid · ChainWhole: laid · ChainLists: laid.
  DERIVED. THE GIVEN ROWS OF THIS SEAT. 7 by the template 'for every input the law returns true; each argument reads behind the call as it read before'; 0 by the template 'total and deterministic' (their statements: YtejpophjiinijaaDoorTotals.lean).
  GIVEN WITH THE SEED: the statements are not yours to turn. If you find one false, say at which input.
  Laid BY PROGRAM, IN A SANDBOX (cutbox-rows.mjs): the forced cells as the released guide's own fill.sh prints them over the translation a611a382397b4d46… (all of the seat's roots in one cut). By AI agents, Wed Nov 11 2026. No macro, syntax, notation, axiom, sorry.
-/
import Derived.Test.YtejpophjiinijaaDoorChecked
import GoSem.Claim
import GoSem.ClaimJoined
import GoSem.ClaimMapViews
import Derived.JoinedTies
import Derived.KernelRfl
namespace Go.Proofs.YtejpophjiinijaaDoor
/- THE CELL 'sum', in the pinned program and in every row, IS THE sha256 OF THE DUMP (.gsa) THAT YtejpophjiinijaaDoorProg.lean LOADS. Nothing in Lean hashes anything: it is a label: what it is worth is what the hold of that sum in a sandbox is worth. -/
noncomputable def Tryd.pinned : Pinned := { name := "ytejpophjiinijaadoor", sum := "a611a382397b4d46323f192e4371fc9b52ab6d9b6c721fe84f31a1176d5bf2c4", checked := Tryd.checked }
namespace Rows
def none {H : Type} : Left H := { results := [], args := [] }

/- WHAT THE LISTED PACKAGE-LEVEL VARIABLES READ AS WHEN THE CALL BEGINS. Each datum BY PROGRAM (the guide's laid-datum.mjs) off the statement by which the dump's own 'gosem.cut.vars' lays the variable. In a bare row this is a premise. The card (YtejpophjiinijaaDoorCards.lean) ties it to the program's text. -/
def laid_math_bits_deBruijn64tab {H : Type} : DataW H := .agg [.lit (.int .u8 0), .lit (.int .u8 1), .lit (.int .u8 56), .lit (.int .u8 2), .lit (.int .u8 57), .lit (.int .u8 49), .lit (.int .u8 28), .lit (.int .u8 3), .lit (.int .u8 61), .lit (.int .u8 58), .lit (.int .u8 42), .lit (.int .u8 50), .lit (.int .u8 38), .lit (.int .u8 29), .lit (.int .u8 17), .lit (.int .u8 4), .lit (.int .u8 62), .lit (.int .u8 47), .lit (.int .u8 59), .lit (.int .u8 36), .lit (.int .u8 45), .lit (.int .u8 43), .lit (.int .u8 51), .lit (.int .u8 22), .lit (.int .u8 53), .lit (.int .u8 39), .lit (.int .u8 33), .lit (.int .u8 30), .lit (.int .u8 24), .lit (.int .u8 18), .lit (.int .u8 12), .lit (.int .u8 5), .lit (.int .u8 63), .lit (.int .u8 55), .lit (.int .u8 48), .lit (.int .u8 27), .lit (.int .u8 60), .lit (.int .u8 41), .lit (.int .u8 37), .lit (.int .u8 16), .lit (.int .u8 46), .lit (.int .u8 35), .lit (.int .u8 44), .lit (.int .u8 21), .lit (.int .u8 52), .lit (.int .u8 32), .lit (.int .u8 23), .lit (.int .u8 11), .lit (.int .u8 54), .lit (.int .u8 26), .lit (.int .u8 40), .lit (.int .u8 15), .lit (.int .u8 34), .lit (.int .u8 20), .lit (.int .u8 31), .lit (.int .u8 10), .lit (.int .u8 25), .lit (.int .u8 14), .lit (.int .u8 19), .lit (.int .u8 9), .lit (.int .u8 13), .lit (.int .u8 8), .lit (.int .u8 7), .lit (.int .u8 6)]
def laid_stillroom_crc_fours {H : Type} : DataW H := .agg [.lit (.int .u32 0), .lit (.int .u32 274646895), .lit (.int .u32 549293790), .lit (.int .u32 820201905), .lit (.int .u32 1098587580), .lit (.int .u32 1361435347), .lit (.int .u32 1640403810), .lit (.int .u32 1905808397), .lit (.int .u32 2197175160), .lit (.int .u32 2460548119), .lit (.int .u32 2722870694), .lit (.int .u32 2987750089), .lit (.int .u32 3280807620), .lit (.int .u32 3553878443), .lit (.int .u32 3811616794), .lit (.int .u32 4084100981)]

/-- 'stillroomlaw13.ChainSees': WHATEVER THE INPUT: true; the input reads as it did. -/
def chainSeesSpec : ChangeSpec := { name := "chainSees", fn := fun _ => fun
  | [d1, d2] => { results := [.lit (.bool true)], args := [d1, d2] }
  | _ => none }
def chainSeesRow : OpenClaim := { program := "ytejpophjiinijaadoor", sum := "a611a382397b4d46323f192e4371fc9b52ab6d9b6c721fe84f31a1176d5bf2c4", func := "stillroom/stillroomlaw13.ChainSees", spec := "chainSees", unfollowed := true, recurses := true, named := ["stillroom/crc.fours", "math/bits.deBruijn64tab"], apart := false, laid := [("math/bits.deBruijn64tab", laid_math_bits_deBruijn64tab), ("stillroom/crc.fours", laid_stillroom_crc_fours)] }
def ChainSeesSaid : Prop := chainSeesRow.holds Tryd.pinned (OpenSpec.ofChange chainSeesSpec)

/-- ITS FALSE NEIGHBOUR: 'it returns false'. Refute it at one input. -/
def chainSeesWrong : ChangeSpec := { name := "chainSees", fn := fun _ => fun
  | [d1, d2] => { results := [.lit (.bool false)], args := [d1, d2] }
  | _ => none }
def ChainSeesWrongFalsely : Prop := chainSeesRow.holds Tryd.pinned (OpenSpec.ofChange chainSeesWrong)

/-- 'stillroomlaw13.ChainTrims': WHATEVER THE INPUT: true; the input reads as it did. -/
def chainTrimsSpec : ChangeSpec := { name := "chainTrims", fn := fun _ => fun
  | [d1, d2, d3] => { results := [.lit (.bool true)], args := [d1, d2, d3] }
  | _ => none }
def chainTrimsRow : OpenClaim := { program := "ytejpophjiinijaadoor", sum := "a611a382397b4d46323f192e4371fc9b52ab6d9b6c721fe84f31a1176d5bf2c4", func := "stillroom/stillroomlaw13.ChainTrims", spec := "chainTrims", unfollowed := true, recurses := true, named := ["stillroom/crc.fours", "math/bits.deBruijn64tab"], apart := false, laid := [("math/bits.deBruijn64tab", laid_math_bits_deBruijn64tab), ("stillroom/crc.fours", laid_stillroom_crc_fours)] }
def ChainTrimsSaid : Prop := chainTrimsRow.holds Tryd.pinned (OpenSpec.ofChange chainTrimsSpec)

/-- ITS FALSE NEIGHBOUR: 'it returns false'. Refute it at one input. -/
def chainTrimsWrong : ChangeSpec := { name := "chainTrims", fn := fun _ => fun
  | [d1, d2, d3] => { results := [.lit (.bool false)], args := [d1, d2, d3] }
  | _ => none }
def ChainTrimsWrongFalsely : Prop := chainTrimsRow.holds Tryd.pinned (OpenSpec.ofChange chainTrimsWrong)

/-- 'stillroomlaw13.ChainCorrupt': WHATEVER THE INPUT: true; the input reads as it did. -/
def chainCorruptSpec : ChangeSpec := { name := "chainCorrupt", fn := fun _ => fun
  | [d1, d2, d3] => { results := [.lit (.bool true)], args := [d1, d2, d3] }
  | _ => none }
def chainCorruptRow : OpenClaim := { program := "ytejpophjiinijaadoor", sum := "a611a382397b4d46323f192e4371fc9b52ab6d9b6c721fe84f31a1176d5bf2c4", func := "stillroom/stillroomlaw13.ChainCorrupt", spec := "chainCorrupt", unfollowed := true, recurses := true, named := ["stillroom/crc.fours", "math/bits.deBruijn64tab"], apart := false, laid := [("math/bits.deBruijn64tab", laid_math_bits_deBruijn64tab), ("stillroom/crc.fours", laid_stillroom_crc_fours)] }
def ChainCorruptSaid : Prop := chainCorruptRow.holds Tryd.pinned (OpenSpec.ofChange chainCorruptSpec)

/-- ITS FALSE NEIGHBOUR: 'it returns false'. Refute it at one input. -/
def chainCorruptWrong : ChangeSpec := { name := "chainCorrupt", fn := fun _ => fun
  | [d1, d2, d3] => { results := [.lit (.bool false)], args := [d1, d2, d3] }
  | _ => none }
def ChainCorruptWrongFalsely : Prop := chainCorruptRow.holds Tryd.pinned (OpenSpec.ofChange chainCorruptWrong)

/-- 'stillroomlaw13.ChainPast': WHATEVER THE INPUT: true; the input reads as it did. -/
def chainPastSpec : ChangeSpec := { name := "chainPast", fn := fun _ => fun
  | [d1, d2, d3] => { results := [.lit (.bool true)], args := [d1, d2, d3] }
  | _ => none }
def chainPastRow : OpenClaim := { program := "ytejpophjiinijaadoor", sum := "a611a382397b4d46323f192e4371fc9b52ab6d9b6c721fe84f31a1176d5bf2c4", func := "stillroom/stillroomlaw13.ChainPast", spec := "chainPast", unfollowed := true, recurses := true, named := ["stillroom/crc.fours", "math/bits.deBruijn64tab"], apart := false, laid := [("math/bits.deBruijn64tab", laid_math_bits_deBruijn64tab), ("stillroom/crc.fours", laid_stillroom_crc_fours)] }
def ChainPastSaid : Prop := chainPastRow.holds Tryd.pinned (OpenSpec.ofChange chainPastSpec)

/-- ITS FALSE NEIGHBOUR: 'it returns false'. Refute it at one input. -/
def chainPastWrong : ChangeSpec := { name := "chainPast", fn := fun _ => fun
  | [d1, d2, d3] => { results := [.lit (.bool false)], args := [d1, d2, d3] }
  | _ => none }
def ChainPastWrongFalsely : Prop := chainPastRow.holds Tryd.pinned (OpenSpec.ofChange chainPastWrong)

/-- 'stillroomlaw13.ChainNeeds': WHATEVER THE INPUT: true; the input reads as it did. -/
def chainNeedsSpec : ChangeSpec := { name := "chainNeeds", fn := fun _ => fun
  | [d1, d2, d3] => { results := [.lit (.bool true)], args := [d1, d2, d3] }
  | _ => none }
def chainNeedsRow : OpenClaim := { program := "ytejpophjiinijaadoor", sum := "a611a382397b4d46323f192e4371fc9b52ab6d9b6c721fe84f31a1176d5bf2c4", func := "stillroom/stillroomlaw13.ChainNeeds", spec := "chainNeeds", unfollowed := true, recurses := true, named := ["stillroom/crc.fours", "math/bits.deBruijn64tab"], apart := false, laid := [("math/bits.deBruijn64tab", laid_math_bits_deBruijn64tab), ("stillroom/crc.fours", laid_stillroom_crc_fours)] }
def ChainNeedsSaid : Prop := chainNeedsRow.holds Tryd.pinned (OpenSpec.ofChange chainNeedsSpec)

/-- ITS FALSE NEIGHBOUR: 'it returns false'. Refute it at one input. -/
def chainNeedsWrong : ChangeSpec := { name := "chainNeeds", fn := fun _ => fun
  | [d1, d2, d3] => { results := [.lit (.bool false)], args := [d1, d2, d3] }
  | _ => none }
def ChainNeedsWrongFalsely : Prop := chainNeedsRow.holds Tryd.pinned (OpenSpec.ofChange chainNeedsWrong)

/-- 'stillroomlaw13.ChainWhole': WHATEVER THE INPUT: true; the input reads as it did. -/
def chainWholeSpec : ChangeSpec := { name := "chainWhole", fn := fun _ => fun
  | [d1, d2, d3] => { results := [.lit (.bool true)], args := [d1, d2, d3] }
  | _ => none }
def chainWholeRow : OpenClaim := { program := "ytejpophjiinijaadoor", sum := "a611a382397b4d46323f192e4371fc9b52ab6d9b6c721fe84f31a1176d5bf2c4", func := "stillroom/stillroomlaw13.ChainWhole", spec := "chainWhole", unfollowed := true, recurses := true, named := ["stillroom/crc.fours", "math/bits.deBruijn64tab"], apart := false, laid := [("math/bits.deBruijn64tab", laid_math_bits_deBruijn64tab), ("stillroom/crc.fours", laid_stillroom_crc_fours)] }
def ChainWholeSaid : Prop := chainWholeRow.holds Tryd.pinned (OpenSpec.ofChange chainWholeSpec)

/-- ITS FALSE NEIGHBOUR: 'it returns false'. Refute it at one input. -/
def chainWholeWrong : ChangeSpec := { name := "chainWhole", fn := fun _ => fun
  | [d1, d2, d3] => { results := [.lit (.bool false)], args := [d1, d2, d3] }
  | _ => none }
def ChainWholeWrongFalsely : Prop := chainWholeRow.holds Tryd.pinned (OpenSpec.ofChange chainWholeWrong)

/-- 'stillroomlaw13.ChainLists': WHATEVER THE INPUT: true; the input reads as it did. -/
def chainListsSpec : ChangeSpec := { name := "chainLists", fn := fun _ => fun
  | [d] => { results := [.lit (.bool true)], args := [d] }
  | _ => none }
def chainListsRow : OpenClaim := { program := "ytejpophjiinijaadoor", sum := "a611a382397b4d46323f192e4371fc9b52ab6d9b6c721fe84f31a1176d5bf2c4", func := "stillroom/stillroomlaw13.ChainLists", spec := "chainLists", unfollowed := true, recurses := true, named := ["stillroom/crc.fours", "math/bits.deBruijn64tab"], apart := false, laid := [("math/bits.deBruijn64tab", laid_math_bits_deBruijn64tab), ("stillroom/crc.fours", laid_stillroom_crc_fours)] }
def ChainListsSaid : Prop := chainListsRow.holds Tryd.pinned (OpenSpec.ofChange chainListsSpec)

/-- ITS FALSE NEIGHBOUR: 'it returns false'. Refute it at one input. -/
def chainListsWrong : ChangeSpec := { name := "chainLists", fn := fun _ => fun
  | [d] => { results := [.lit (.bool false)], args := [d] }
  | _ => none }
def ChainListsWrongFalsely : Prop := chainListsRow.holds Tryd.pinned (OpenSpec.ofChange chainListsWrong)

/- THE SECOND FORM. 'bulk': how many values and letters a reading holds, each counted each time it is reached (what is shared counts as often as it is met; a slice's spare places count too). A statement '..UptoSaid' is the law's where the arguments, and the package variables that the reading takes, are together of bulk at most 1048576: NARROWER than '..Said'. Prove '..Said' where nothing that the law and all that it calls make is longer than what came in: it says more and counts as full. Else prove '..UptoSaid'. A law counts once. -/
mutual
def uptoBulk {H : Type} : DataW H → Nat
  | .lit (.string bytes) => bytes.length + 1
  | .lit _ => 1
  | .nil => 1
  | .ptr d => uptoBulk d + 1
  | .slice elems spare => uptoBulkAll elems + uptoBulkAll spare + 1
  | .agg parts => uptoBulkAll parts + 1
  | .iface _ d => uptoBulk d + 1
  | .map entries => uptoBulkEntries entries + 1
  | .held _ => 1
def uptoBulkAll {H : Type} : List (DataW H) → Nat
  | [] => 0
  | d :: r => uptoBulk d + uptoBulkAll r
def uptoBulkEntries {H : Type} : List (Lit × DataW H) → Nat
  | [] => 0
  | x :: r => uptoBulkEntry x + uptoBulkEntries r
def uptoBulkEntry {H : Type} : Lit × DataW H → Nat
  | (.string bytes, d) => bytes.length + uptoBulk d + 1
  | (_, d) => uptoBulk d + 1
 end
def uptoSmall : (H : Type) → List (DataW H) → Bool := fun _ ds => decide (uptoBulkAll ds ≤ 1048576)
def OpenSpec.upto (s : _root_.Go.ChangeSpec) : _root_.Go.OpenSpec := { _root_.Go.OpenSpec.ofChange s with cond := some uptoSmall }

/-- 'stillroomlaw13.ChainSees', WHERE WHAT IT READS IS OF BULK AT MOST 1048576: true; the input reads as it did. -/
def chainSeesUptoRow : OpenClaim := { program := "ytejpophjiinijaadoor", sum := "a611a382397b4d46323f192e4371fc9b52ab6d9b6c721fe84f31a1176d5bf2c4", func := "stillroom/stillroomlaw13.ChainSees", spec := "chainSees", unfollowed := true, recurses := true, named := ["stillroom/crc.fours", "math/bits.deBruijn64tab"], apart := false, laid := [("math/bits.deBruijn64tab", laid_math_bits_deBruijn64tab), ("stillroom/crc.fours", laid_stillroom_crc_fours)], narrowed := true }
def ChainSeesUptoSaid : Prop := chainSeesUptoRow.holds Tryd.pinned (OpenSpec.upto chainSeesSpec)

/-- 'stillroomlaw13.ChainTrims', WHERE WHAT IT READS IS OF BULK AT MOST 1048576: true; the input reads as it did. -/
def chainTrimsUptoRow : OpenClaim := { program := "ytejpophjiinijaadoor", sum := "a611a382397b4d46323f192e4371fc9b52ab6d9b6c721fe84f31a1176d5bf2c4", func := "stillroom/stillroomlaw13.ChainTrims", spec := "chainTrims", unfollowed := true, recurses := true, named := ["stillroom/crc.fours", "math/bits.deBruijn64tab"], apart := false, laid := [("math/bits.deBruijn64tab", laid_math_bits_deBruijn64tab), ("stillroom/crc.fours", laid_stillroom_crc_fours)], narrowed := true }
def ChainTrimsUptoSaid : Prop := chainTrimsUptoRow.holds Tryd.pinned (OpenSpec.upto chainTrimsSpec)

/-- 'stillroomlaw13.ChainCorrupt', WHERE WHAT IT READS IS OF BULK AT MOST 1048576: true; the input reads as it did. -/
def chainCorruptUptoRow : OpenClaim := { program := "ytejpophjiinijaadoor", sum := "a611a382397b4d46323f192e4371fc9b52ab6d9b6c721fe84f31a1176d5bf2c4", func := "stillroom/stillroomlaw13.ChainCorrupt", spec := "chainCorrupt", unfollowed := true, recurses := true, named := ["stillroom/crc.fours", "math/bits.deBruijn64tab"], apart := false, laid := [("math/bits.deBruijn64tab", laid_math_bits_deBruijn64tab), ("stillroom/crc.fours", laid_stillroom_crc_fours)], narrowed := true }
def ChainCorruptUptoSaid : Prop := chainCorruptUptoRow.holds Tryd.pinned (OpenSpec.upto chainCorruptSpec)

/-- 'stillroomlaw13.ChainPast', WHERE WHAT IT READS IS OF BULK AT MOST 1048576: true; the input reads as it did. -/
def chainPastUptoRow : OpenClaim := { program := "ytejpophjiinijaadoor", sum := "a611a382397b4d46323f192e4371fc9b52ab6d9b6c721fe84f31a1176d5bf2c4", func := "stillroom/stillroomlaw13.ChainPast", spec := "chainPast", unfollowed := true, recurses := true, named := ["stillroom/crc.fours", "math/bits.deBruijn64tab"], apart := false, laid := [("math/bits.deBruijn64tab", laid_math_bits_deBruijn64tab), ("stillroom/crc.fours", laid_stillroom_crc_fours)], narrowed := true }
def ChainPastUptoSaid : Prop := chainPastUptoRow.holds Tryd.pinned (OpenSpec.upto chainPastSpec)

/-- 'stillroomlaw13.ChainNeeds', WHERE WHAT IT READS IS OF BULK AT MOST 1048576: true; the input reads as it did. -/
def chainNeedsUptoRow : OpenClaim := { program := "ytejpophjiinijaadoor", sum := "a611a382397b4d46323f192e4371fc9b52ab6d9b6c721fe84f31a1176d5bf2c4", func := "stillroom/stillroomlaw13.ChainNeeds", spec := "chainNeeds", unfollowed := true, recurses := true, named := ["stillroom/crc.fours", "math/bits.deBruijn64tab"], apart := false, laid := [("math/bits.deBruijn64tab", laid_math_bits_deBruijn64tab), ("stillroom/crc.fours", laid_stillroom_crc_fours)], narrowed := true }
def ChainNeedsUptoSaid : Prop := chainNeedsUptoRow.holds Tryd.pinned (OpenSpec.upto chainNeedsSpec)

/-- 'stillroomlaw13.ChainWhole', WHERE WHAT IT READS IS OF BULK AT MOST 1048576: true; the input reads as it did. -/
def chainWholeUptoRow : OpenClaim := { program := "ytejpophjiinijaadoor", sum := "a611a382397b4d46323f192e4371fc9b52ab6d9b6c721fe84f31a1176d5bf2c4", func := "stillroom/stillroomlaw13.ChainWhole", spec := "chainWhole", unfollowed := true, recurses := true, named := ["stillroom/crc.fours", "math/bits.deBruijn64tab"], apart := false, laid := [("math/bits.deBruijn64tab", laid_math_bits_deBruijn64tab), ("stillroom/crc.fours", laid_stillroom_crc_fours)], narrowed := true }
def ChainWholeUptoSaid : Prop := chainWholeUptoRow.holds Tryd.pinned (OpenSpec.upto chainWholeSpec)

/-- 'stillroomlaw13.ChainLists', WHERE WHAT IT READS IS OF BULK AT MOST 1048576: true; the input reads as it did. -/
def chainListsUptoRow : OpenClaim := { program := "ytejpophjiinijaadoor", sum := "a611a382397b4d46323f192e4371fc9b52ab6d9b6c721fe84f31a1176d5bf2c4", func := "stillroom/stillroomlaw13.ChainLists", spec := "chainLists", unfollowed := true, recurses := true, named := ["stillroom/crc.fours", "math/bits.deBruijn64tab"], apart := false, laid := [("math/bits.deBruijn64tab", laid_math_bits_deBruijn64tab), ("stillroom/crc.fours", laid_stillroom_crc_fours)], narrowed := true }
def ChainListsUptoSaid : Prop := chainListsUptoRow.holds Tryd.pinned (OpenSpec.upto chainListsSpec)

end Rows
end Go.Proofs.YtejpophjiinijaaDoor
