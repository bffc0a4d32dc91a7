/-
  NARROWER THAN 'FOR EVERY INPUT', by the rows' own cells (each row's printed sentence says how): PoolApart: laid · PoolCorrupt: laid · PoolNobody: laid · PoolFills: laid · PoolAgain: laid · PoolDurable: laid.
  DERIVED. THE GIVEN ROWS OF THIS SEAT. 6 by the template 'for every input the law returns true; each argument reads behind the call as it read before'; 0 by the template 'total and deterministic' (their statements: YtcpackbljaabnaaDoorTotals.lean).
  GIVEN WITH THE SEED: the statements are not yours to turn. If you find one false, say at which input.
  Laid BY PROGRAM, IN A SANDBOX (cutbox-rows.mjs): the forced cells as the released guide's own fill.sh prints them over the translation 9a95396d59143792… (all of the seat's roots in one cut). By AI agents, Wed Nov 11 2026. No macro, syntax, notation, axiom, sorry.
-/
import Derived.Test.YtcpackbljaabnaaDoorChecked
import GoSem.Claim
import GoSem.ClaimJoined
import GoSem.ClaimMapViews
import Derived.JoinedTies
import Derived.KernelRfl
namespace Go.Proofs.YtcpackbljaabnaaDoor
/- THE CELL 'sum', in the pinned program and in every row, IS THE sha256 OF THE DUMP (.gsa) THAT YtcpackbljaabnaaDoorProg.lean LOADS. Nothing in Lean hashes anything: it is a label: what it is worth is what the hold of that sum in a sandbox is worth. -/
noncomputable def Tryd.pinned : Pinned := { name := "ytcpackbljaabnaadoor", sum := "9a95396d59143792c35c7ab80f6c6463ce5d05eb472234f88ddbb4159965623a", checked := Tryd.checked }
namespace Rows
def none {H : Type} : Left H := { results := [], args := [] }

/- WHAT THE LISTED PACKAGE-LEVEL VARIABLES READ AS WHEN THE CALL BEGINS. Each datum BY PROGRAM (the guide's laid-datum.mjs) off the statement by which the dump's own 'gosem.cut.vars' lays the variable. In a bare row this is a premise. The card (YtcpackbljaabnaaDoorCards.lean) ties it to the program's text. -/
def laid_math_bits_deBruijn64tab {H : Type} : DataW H := .agg [.lit (.int .u8 0), .lit (.int .u8 1), .lit (.int .u8 56), .lit (.int .u8 2), .lit (.int .u8 57), .lit (.int .u8 49), .lit (.int .u8 28), .lit (.int .u8 3), .lit (.int .u8 61), .lit (.int .u8 58), .lit (.int .u8 42), .lit (.int .u8 50), .lit (.int .u8 38), .lit (.int .u8 29), .lit (.int .u8 17), .lit (.int .u8 4), .lit (.int .u8 62), .lit (.int .u8 47), .lit (.int .u8 59), .lit (.int .u8 36), .lit (.int .u8 45), .lit (.int .u8 43), .lit (.int .u8 51), .lit (.int .u8 22), .lit (.int .u8 53), .lit (.int .u8 39), .lit (.int .u8 33), .lit (.int .u8 30), .lit (.int .u8 24), .lit (.int .u8 18), .lit (.int .u8 12), .lit (.int .u8 5), .lit (.int .u8 63), .lit (.int .u8 55), .lit (.int .u8 48), .lit (.int .u8 27), .lit (.int .u8 60), .lit (.int .u8 41), .lit (.int .u8 37), .lit (.int .u8 16), .lit (.int .u8 46), .lit (.int .u8 35), .lit (.int .u8 44), .lit (.int .u8 21), .lit (.int .u8 52), .lit (.int .u8 32), .lit (.int .u8 23), .lit (.int .u8 11), .lit (.int .u8 54), .lit (.int .u8 26), .lit (.int .u8 40), .lit (.int .u8 15), .lit (.int .u8 34), .lit (.int .u8 20), .lit (.int .u8 31), .lit (.int .u8 10), .lit (.int .u8 25), .lit (.int .u8 14), .lit (.int .u8 19), .lit (.int .u8 9), .lit (.int .u8 13), .lit (.int .u8 8), .lit (.int .u8 7), .lit (.int .u8 6)]
def laid_stillroom_crc_fours {H : Type} : DataW H := .agg [.lit (.int .u32 0), .lit (.int .u32 274646895), .lit (.int .u32 549293790), .lit (.int .u32 820201905), .lit (.int .u32 1098587580), .lit (.int .u32 1361435347), .lit (.int .u32 1640403810), .lit (.int .u32 1905808397), .lit (.int .u32 2197175160), .lit (.int .u32 2460548119), .lit (.int .u32 2722870694), .lit (.int .u32 2987750089), .lit (.int .u32 3280807620), .lit (.int .u32 3553878443), .lit (.int .u32 3811616794), .lit (.int .u32 4084100981)]

/-- 'stillroomlaw07.PoolApart': WHATEVER THE INPUT: true; the input reads as it did. -/
def poolApartSpec : ChangeSpec := { name := "poolApart", fn := fun _ => fun
  | [d1, d2] => { results := [.lit (.bool true)], args := [d1, d2] }
  | _ => none }
def poolApartRow : OpenClaim := { program := "ytcpackbljaabnaadoor", sum := "9a95396d59143792c35c7ab80f6c6463ce5d05eb472234f88ddbb4159965623a", func := "stillroom/stillroomlaw07.PoolApart", spec := "poolApart", unfollowed := true, recurses := true, named := ["stillroom/crc.fours", "math/bits.deBruijn64tab"], apart := false, laid := [("math/bits.deBruijn64tab", laid_math_bits_deBruijn64tab), ("stillroom/crc.fours", laid_stillroom_crc_fours)] }
def PoolApartSaid : Prop := poolApartRow.holds Tryd.pinned (OpenSpec.ofChange poolApartSpec)

/-- ITS FALSE NEIGHBOUR: 'it returns false'. Refute it at one input. -/
def poolApartWrong : ChangeSpec := { name := "poolApart", fn := fun _ => fun
  | [d1, d2] => { results := [.lit (.bool false)], args := [d1, d2] }
  | _ => none }
def PoolApartWrongFalsely : Prop := poolApartRow.holds Tryd.pinned (OpenSpec.ofChange poolApartWrong)

/-- 'stillroomlaw07.PoolCorrupt': WHATEVER THE INPUT: true; the input reads as it did. -/
def poolCorruptSpec : ChangeSpec := { name := "poolCorrupt", fn := fun _ => fun
  | [d1, d2, d3] => { results := [.lit (.bool true)], args := [d1, d2, d3] }
  | _ => none }
def poolCorruptRow : OpenClaim := { program := "ytcpackbljaabnaadoor", sum := "9a95396d59143792c35c7ab80f6c6463ce5d05eb472234f88ddbb4159965623a", func := "stillroom/stillroomlaw07.PoolCorrupt", spec := "poolCorrupt", unfollowed := true, recurses := true, named := ["stillroom/crc.fours", "math/bits.deBruijn64tab"], apart := false, laid := [("math/bits.deBruijn64tab", laid_math_bits_deBruijn64tab), ("stillroom/crc.fours", laid_stillroom_crc_fours)] }
def PoolCorruptSaid : Prop := poolCorruptRow.holds Tryd.pinned (OpenSpec.ofChange poolCorruptSpec)

/-- ITS FALSE NEIGHBOUR: 'it returns false'. Refute it at one input. -/
def poolCorruptWrong : ChangeSpec := { name := "poolCorrupt", fn := fun _ => fun
  | [d1, d2, d3] => { results := [.lit (.bool false)], args := [d1, d2, d3] }
  | _ => none }
def PoolCorruptWrongFalsely : Prop := poolCorruptRow.holds Tryd.pinned (OpenSpec.ofChange poolCorruptWrong)

/-- 'stillroomlaw07.PoolNobody': WHATEVER THE INPUT: true; the input reads as it did. -/
def poolNobodySpec : ChangeSpec := { name := "poolNobody", fn := fun _ => fun
  | [d1, d2] => { results := [.lit (.bool true)], args := [d1, d2] }
  | _ => none }
def poolNobodyRow : OpenClaim := { program := "ytcpackbljaabnaadoor", sum := "9a95396d59143792c35c7ab80f6c6463ce5d05eb472234f88ddbb4159965623a", func := "stillroom/stillroomlaw07.PoolNobody", spec := "poolNobody", unfollowed := true, recurses := true, named := ["stillroom/crc.fours", "math/bits.deBruijn64tab"], apart := false, laid := [("math/bits.deBruijn64tab", laid_math_bits_deBruijn64tab), ("stillroom/crc.fours", laid_stillroom_crc_fours)] }
def PoolNobodySaid : Prop := poolNobodyRow.holds Tryd.pinned (OpenSpec.ofChange poolNobodySpec)

/-- ITS FALSE NEIGHBOUR: 'it returns false'. Refute it at one input. -/
def poolNobodyWrong : ChangeSpec := { name := "poolNobody", fn := fun _ => fun
  | [d1, d2] => { results := [.lit (.bool false)], args := [d1, d2] }
  | _ => none }
def PoolNobodyWrongFalsely : Prop := poolNobodyRow.holds Tryd.pinned (OpenSpec.ofChange poolNobodyWrong)

/-- 'stillroomlaw07.PoolFills': WHATEVER THE INPUT: true; the input reads as it did. -/
def poolFillsSpec : ChangeSpec := { name := "poolFills", fn := fun _ => fun
  | [d1, d2] => { results := [.lit (.bool true)], args := [d1, d2] }
  | _ => none }
def poolFillsRow : OpenClaim := { program := "ytcpackbljaabnaadoor", sum := "9a95396d59143792c35c7ab80f6c6463ce5d05eb472234f88ddbb4159965623a", func := "stillroom/stillroomlaw07.PoolFills", spec := "poolFills", unfollowed := true, recurses := true, named := ["stillroom/crc.fours", "math/bits.deBruijn64tab"], apart := false, laid := [("math/bits.deBruijn64tab", laid_math_bits_deBruijn64tab), ("stillroom/crc.fours", laid_stillroom_crc_fours)] }
def PoolFillsSaid : Prop := poolFillsRow.holds Tryd.pinned (OpenSpec.ofChange poolFillsSpec)

/-- ITS FALSE NEIGHBOUR: 'it returns false'. Refute it at one input. -/
def poolFillsWrong : ChangeSpec := { name := "poolFills", fn := fun _ => fun
  | [d1, d2] => { results := [.lit (.bool false)], args := [d1, d2] }
  | _ => none }
def PoolFillsWrongFalsely : Prop := poolFillsRow.holds Tryd.pinned (OpenSpec.ofChange poolFillsWrong)

/-- 'stillroomlaw07.PoolAgain': WHATEVER THE INPUT: true; the input reads as it did. -/
def poolAgainSpec : ChangeSpec := { name := "poolAgain", fn := fun _ => fun
  | [d1, d2] => { results := [.lit (.bool true)], args := [d1, d2] }
  | _ => none }
def poolAgainRow : OpenClaim := { program := "ytcpackbljaabnaadoor", sum := "9a95396d59143792c35c7ab80f6c6463ce5d05eb472234f88ddbb4159965623a", func := "stillroom/stillroomlaw07.PoolAgain", spec := "poolAgain", unfollowed := true, recurses := true, named := ["stillroom/crc.fours", "math/bits.deBruijn64tab"], apart := false, laid := [("math/bits.deBruijn64tab", laid_math_bits_deBruijn64tab), ("stillroom/crc.fours", laid_stillroom_crc_fours)] }
def PoolAgainSaid : Prop := poolAgainRow.holds Tryd.pinned (OpenSpec.ofChange poolAgainSpec)

/-- ITS FALSE NEIGHBOUR: 'it returns false'. Refute it at one input. -/
def poolAgainWrong : ChangeSpec := { name := "poolAgain", fn := fun _ => fun
  | [d1, d2] => { results := [.lit (.bool false)], args := [d1, d2] }
  | _ => none }
def PoolAgainWrongFalsely : Prop := poolAgainRow.holds Tryd.pinned (OpenSpec.ofChange poolAgainWrong)

/-- 'stillroomlaw07.PoolDurable': WHATEVER THE INPUT: true; the input reads as it did. -/
def poolDurableSpec : ChangeSpec := { name := "poolDurable", fn := fun _ => fun
  | [d1, d2, d3] => { results := [.lit (.bool true)], args := [d1, d2, d3] }
  | _ => none }
def poolDurableRow : OpenClaim := { program := "ytcpackbljaabnaadoor", sum := "9a95396d59143792c35c7ab80f6c6463ce5d05eb472234f88ddbb4159965623a", func := "stillroom/stillroomlaw07.PoolDurable", spec := "poolDurable", unfollowed := true, recurses := true, named := ["stillroom/crc.fours", "math/bits.deBruijn64tab"], apart := false, laid := [("math/bits.deBruijn64tab", laid_math_bits_deBruijn64tab), ("stillroom/crc.fours", laid_stillroom_crc_fours)] }
def PoolDurableSaid : Prop := poolDurableRow.holds Tryd.pinned (OpenSpec.ofChange poolDurableSpec)

/-- ITS FALSE NEIGHBOUR: 'it returns false'. Refute it at one input. -/
def poolDurableWrong : ChangeSpec := { name := "poolDurable", fn := fun _ => fun
  | [d1, d2, d3] => { results := [.lit (.bool false)], args := [d1, d2, d3] }
  | _ => none }
def PoolDurableWrongFalsely : Prop := poolDurableRow.holds Tryd.pinned (OpenSpec.ofChange poolDurableWrong)

/- THE SECOND FORM. 'bulk': how many values and letters a reading holds, each counted each time it is reached (what is shared counts as often as it is met; a slice's spare places count too). A statement '..UptoSaid' is the law's where the arguments, and the package variables that the reading takes, are together of bulk at most 1048576: NARROWER than '..Said'. Prove '..Said' where nothing that the law and all that it calls make is longer than what came in: it says more and counts as full. Else prove '..UptoSaid'. A law counts once. -/
mutual
def uptoBulk {H : Type} : DataW H → Nat
  | .lit (.string bytes) => bytes.length + 1
  | .lit _ => 1
  | .nil => 1
  | .ptr d => uptoBulk d + 1
  | .slice elems spare => uptoBulkAll elems + uptoBulkAll spare + 1
  | .agg parts => uptoBulkAll parts + 1
  | .iface _ d => uptoBulk d + 1
  | .map entries => uptoBulkEntries entries + 1
  | .held _ => 1
def uptoBulkAll {H : Type} : List (DataW H) → Nat
  | [] => 0
  | d :: r => uptoBulk d + uptoBulkAll r
def uptoBulkEntries {H : Type} : List (Lit × DataW H) → Nat
  | [] => 0
  | x :: r => uptoBulkEntry x + uptoBulkEntries r
def uptoBulkEntry {H : Type} : Lit × DataW H → Nat
  | (.string bytes, d) => bytes.length + uptoBulk d + 1
  | (_, d) => uptoBulk d + 1
 end
def uptoSmall : (H : Type) → List (DataW H) → Bool := fun _ ds => decide (uptoBulkAll ds ≤ 1048576)
def OpenSpec.upto (s : _root_.Go.ChangeSpec) : _root_.Go.OpenSpec := { _root_.Go.OpenSpec.ofChange s with cond := some uptoSmall }

/-- 'stillroomlaw07.PoolApart', WHERE WHAT IT READS IS OF BULK AT MOST 1048576: true; the input reads as it did. -/
def poolApartUptoRow : OpenClaim := { program := "ytcpackbljaabnaadoor", sum := "9a95396d59143792c35c7ab80f6c6463ce5d05eb472234f88ddbb4159965623a", func := "stillroom/stillroomlaw07.PoolApart", spec := "poolApart", unfollowed := true, recurses := true, named := ["stillroom/crc.fours", "math/bits.deBruijn64tab"], apart := false, laid := [("math/bits.deBruijn64tab", laid_math_bits_deBruijn64tab), ("stillroom/crc.fours", laid_stillroom_crc_fours)], narrowed := true }
def PoolApartUptoSaid : Prop := poolApartUptoRow.holds Tryd.pinned (OpenSpec.upto poolApartSpec)

/-- 'stillroomlaw07.PoolCorrupt', WHERE WHAT IT READS IS OF BULK AT MOST 1048576: true; the input reads as it did. -/
def poolCorruptUptoRow : OpenClaim := { program := "ytcpackbljaabnaadoor", sum := "9a95396d59143792c35c7ab80f6c6463ce5d05eb472234f88ddbb4159965623a", func := "stillroom/stillroomlaw07.PoolCorrupt", spec := "poolCorrupt", unfollowed := true, recurses := true, named := ["stillroom/crc.fours", "math/bits.deBruijn64tab"], apart := false, laid := [("math/bits.deBruijn64tab", laid_math_bits_deBruijn64tab), ("stillroom/crc.fours", laid_stillroom_crc_fours)], narrowed := true }
def PoolCorruptUptoSaid : Prop := poolCorruptUptoRow.holds Tryd.pinned (OpenSpec.upto poolCorruptSpec)

/-- 'stillroomlaw07.PoolNobody', WHERE WHAT IT READS IS OF BULK AT MOST 1048576: true; the input reads as it did. -/
def poolNobodyUptoRow : OpenClaim := { program := "ytcpackbljaabnaadoor", sum := "9a95396d59143792c35c7ab80f6c6463ce5d05eb472234f88ddbb4159965623a", func := "stillroom/stillroomlaw07.PoolNobody", spec := "poolNobody", unfollowed := true, recurses := true, named := ["stillroom/crc.fours", "math/bits.deBruijn64tab"], apart := false, laid := [("math/bits.deBruijn64tab", laid_math_bits_deBruijn64tab), ("stillroom/crc.fours", laid_stillroom_crc_fours)], narrowed := true }
def PoolNobodyUptoSaid : Prop := poolNobodyUptoRow.holds Tryd.pinned (OpenSpec.upto poolNobodySpec)

/-- 'stillroomlaw07.PoolFills', WHERE WHAT IT READS IS OF BULK AT MOST 1048576: true; the input reads as it did. -/
def poolFillsUptoRow : OpenClaim := { program := "ytcpackbljaabnaadoor", sum := "9a95396d59143792c35c7ab80f6c6463ce5d05eb472234f88ddbb4159965623a", func := "stillroom/stillroomlaw07.PoolFills", spec := "poolFills", unfollowed := true, recurses := true, named := ["stillroom/crc.fours", "math/bits.deBruijn64tab"], apart := false, laid := [("math/bits.deBruijn64tab", laid_math_bits_deBruijn64tab), ("stillroom/crc.fours", laid_stillroom_crc_fours)], narrowed := true }
def PoolFillsUptoSaid : Prop := poolFillsUptoRow.holds Tryd.pinned (OpenSpec.upto poolFillsSpec)

/-- 'stillroomlaw07.PoolAgain', WHERE WHAT IT READS IS OF BULK AT MOST 1048576: true; the input reads as it did. -/
def poolAgainUptoRow : OpenClaim := { program := "ytcpackbljaabnaadoor", sum := "9a95396d59143792c35c7ab80f6c6463ce5d05eb472234f88ddbb4159965623a", func := "stillroom/stillroomlaw07.PoolAgain", spec := "poolAgain", unfollowed := true, recurses := true, named := ["stillroom/crc.fours", "math/bits.deBruijn64tab"], apart := false, laid := [("math/bits.deBruijn64tab", laid_math_bits_deBruijn64tab), ("stillroom/crc.fours", laid_stillroom_crc_fours)], narrowed := true }
def PoolAgainUptoSaid : Prop := poolAgainUptoRow.holds Tryd.pinned (OpenSpec.upto poolAgainSpec)

/-- 'stillroomlaw07.PoolDurable', WHERE WHAT IT READS IS OF BULK AT MOST 1048576: true; the input reads as it did. -/
def poolDurableUptoRow : OpenClaim := { program := "ytcpackbljaabnaadoor", sum := "9a95396d59143792c35c7ab80f6c6463ce5d05eb472234f88ddbb4159965623a", func := "stillroom/stillroomlaw07.PoolDurable", spec := "poolDurable", unfollowed := true, recurses := true, named := ["stillroom/crc.fours", "math/bits.deBruijn64tab"], apart := false, laid := [("math/bits.deBruijn64tab", laid_math_bits_deBruijn64tab), ("stillroom/crc.fours", laid_stillroom_crc_fours)], narrowed := true }
def PoolDurableUptoSaid : Prop := poolDurableUptoRow.holds Tryd.pinned (OpenSpec.upto poolDurableSpec)

end Rows
end Go.Proofs.YtcpackbljaabnaaDoor
