/-
  No cell of these rows narrows 'for every input' (looked for: loops, veiled, ifaces, maps, wideKeys, modest, calm, conditions, laid).
  DERIVED. THE GIVEN ROWS OF THIS SEAT. 10 by the template 'for every input the law returns true; each argument reads behind the call as it read before'; 0 by the template 'total and deterministic' (their statements: YtkljlgahdlgmpaaTotals.lean).
  GIVEN WITH THE SEED: the statements are not yours to turn. If you find one false, say at which input.
  Laid BY PROGRAM, IN A SANDBOX (cutbox-rows.mjs): the forced cells as the released guide's own fill.sh prints them over the translation 85511b1b8384bf08… (all of the seat's roots in one cut). By AI agents, Wed Nov 11 2026. No macro, syntax, notation, axiom, sorry.
-/
import Derived.Test.YtkljlgahdlgmpaaChecked
import GoSem.Claim
import GoSem.ClaimJoined
import GoSem.ClaimMapViews
import Derived.JoinedTies
import Derived.KernelRfl
namespace Go.Proofs.Ytkljlgahdlgmpaa
/- THE CELL 'sum', in the pinned program and in every row, IS THE sha256 OF THE DUMP (.gsa) THAT YtkljlgahdlgmpaaProg.lean LOADS. Nothing in Lean hashes anything: it is a label: what it is worth is what the hold of that sum in a sandbox is worth. -/
noncomputable def Try.pinned : Pinned := { name := "ytkljlgahdlgmpaa", sum := "85511b1b8384bf086e25e10a10b33fbd754ac3b1cd2df320114938350b0af0c0", checked := Try.checked }
namespace Rows
def none {H : Type} : Left H := { results := [], args := [] }

/-- 'stillroomlaw03.NvmDurable': WHATEVER THE INPUT: true; the input reads as it did. -/
def nvmDurableSpec : ChangeSpec := { name := "nvmDurable", fn := fun _ => fun
  | [d1, d2, d3] => { results := [.lit (.bool true)], args := [d1, d2, d3] }
  | _ => none }
def nvmDurableRow : OpenClaim := { program := "ytkljlgahdlgmpaa", sum := "85511b1b8384bf086e25e10a10b33fbd754ac3b1cd2df320114938350b0af0c0", func := "stillroom/stillroomlaw03.NvmDurable", spec := "nvmDurable", unfollowed := true, recurses := true, apart := false }
def NvmDurableSaid : Prop := nvmDurableRow.holds Try.pinned (OpenSpec.ofChange nvmDurableSpec)

/-- ITS FALSE NEIGHBOUR: 'it returns false'. Refute it at one input. -/
def nvmDurableWrong : ChangeSpec := { name := "nvmDurable", fn := fun _ => fun
  | [d1, d2, d3] => { results := [.lit (.bool false)], args := [d1, d2, d3] }
  | _ => none }
def NvmDurableWrongFalsely : Prop := nvmDurableRow.holds Try.pinned (OpenSpec.ofChange nvmDurableWrong)

/-- 'stillroomlaw03.NvmContents': WHATEVER THE INPUT: true; the input reads as it did. -/
def nvmContentsSpec : ChangeSpec := { name := "nvmContents", fn := fun _ => fun
  | [d1, d2] => { results := [.lit (.bool true)], args := [d1, d2] }
  | _ => none }
def nvmContentsRow : OpenClaim := { program := "ytkljlgahdlgmpaa", sum := "85511b1b8384bf086e25e10a10b33fbd754ac3b1cd2df320114938350b0af0c0", func := "stillroom/stillroomlaw03.NvmContents", spec := "nvmContents", unfollowed := true, recurses := true, apart := false }
def NvmContentsSaid : Prop := nvmContentsRow.holds Try.pinned (OpenSpec.ofChange nvmContentsSpec)

/-- ITS FALSE NEIGHBOUR: 'it returns false'. Refute it at one input. -/
def nvmContentsWrong : ChangeSpec := { name := "nvmContents", fn := fun _ => fun
  | [d1, d2] => { results := [.lit (.bool false)], args := [d1, d2] }
  | _ => none }
def NvmContentsWrongFalsely : Prop := nvmContentsRow.holds Try.pinned (OpenSpec.ofChange nvmContentsWrong)

/-- 'stillroomlaw03.NvmLoads': WHATEVER THE INPUT: true; the input reads as it did. -/
def nvmLoadsSpec : ChangeSpec := { name := "nvmLoads", fn := fun _ => fun
  | [d1, d2, d3] => { results := [.lit (.bool true)], args := [d1, d2, d3] }
  | _ => none }
def nvmLoadsRow : OpenClaim := { program := "ytkljlgahdlgmpaa", sum := "85511b1b8384bf086e25e10a10b33fbd754ac3b1cd2df320114938350b0af0c0", func := "stillroom/stillroomlaw03.NvmLoads", spec := "nvmLoads", unfollowed := true, recurses := true, apart := false }
def NvmLoadsSaid : Prop := nvmLoadsRow.holds Try.pinned (OpenSpec.ofChange nvmLoadsSpec)

/-- ITS FALSE NEIGHBOUR: 'it returns false'. Refute it at one input. -/
def nvmLoadsWrong : ChangeSpec := { name := "nvmLoads", fn := fun _ => fun
  | [d1, d2, d3] => { results := [.lit (.bool false)], args := [d1, d2, d3] }
  | _ => none }
def NvmLoadsWrongFalsely : Prop := nvmLoadsRow.holds Try.pinned (OpenSpec.ofChange nvmLoadsWrong)

/-- 'stillroomlaw03.NvmMay': WHATEVER THE INPUT: true; the input reads as it did. -/
def nvmMaySpec : ChangeSpec := { name := "nvmMay", fn := fun _ => fun
  | [d1, d2] => { results := [.lit (.bool true)], args := [d1, d2] }
  | _ => none }
def nvmMayRow : OpenClaim := { program := "ytkljlgahdlgmpaa", sum := "85511b1b8384bf086e25e10a10b33fbd754ac3b1cd2df320114938350b0af0c0", func := "stillroom/stillroomlaw03.NvmMay", spec := "nvmMay", unfollowed := true, recurses := true, apart := false }
def NvmMaySaid : Prop := nvmMayRow.holds Try.pinned (OpenSpec.ofChange nvmMaySpec)

/-- ITS FALSE NEIGHBOUR: 'it returns false'. Refute it at one input. -/
def nvmMayWrong : ChangeSpec := { name := "nvmMay", fn := fun _ => fun
  | [d1, d2] => { results := [.lit (.bool false)], args := [d1, d2] }
  | _ => none }
def NvmMayWrongFalsely : Prop := nvmMayRow.holds Try.pinned (OpenSpec.ofChange nvmMayWrong)

/-- 'stillroomlaw03.NvmStop': WHATEVER THE INPUT: true; the input reads as it did. -/
def nvmStopSpec : ChangeSpec := { name := "nvmStop", fn := fun _ => fun
  | [d1, d2, d3] => { results := [.lit (.bool true)], args := [d1, d2, d3] }
  | _ => none }
def nvmStopRow : OpenClaim := { program := "ytkljlgahdlgmpaa", sum := "85511b1b8384bf086e25e10a10b33fbd754ac3b1cd2df320114938350b0af0c0", func := "stillroom/stillroomlaw03.NvmStop", spec := "nvmStop", unfollowed := true, recurses := true, apart := false }
def NvmStopSaid : Prop := nvmStopRow.holds Try.pinned (OpenSpec.ofChange nvmStopSpec)

/-- ITS FALSE NEIGHBOUR: 'it returns false'. Refute it at one input. -/
def nvmStopWrong : ChangeSpec := { name := "nvmStop", fn := fun _ => fun
  | [d1, d2, d3] => { results := [.lit (.bool false)], args := [d1, d2, d3] }
  | _ => none }
def NvmStopWrongFalsely : Prop := nvmStopRow.holds Try.pinned (OpenSpec.ofChange nvmStopWrong)

/-- 'stillroomlaw03.NvmNobody': WHATEVER THE INPUT: true; the input reads as it did. -/
def nvmNobodySpec : ChangeSpec := { name := "nvmNobody", fn := fun _ => fun
  | [d1, d2, d3] => { results := [.lit (.bool true)], args := [d1, d2, d3] }
  | _ => none }
def nvmNobodyRow : OpenClaim := { program := "ytkljlgahdlgmpaa", sum := "85511b1b8384bf086e25e10a10b33fbd754ac3b1cd2df320114938350b0af0c0", func := "stillroom/stillroomlaw03.NvmNobody", spec := "nvmNobody", unfollowed := true, recurses := true, apart := false }
def NvmNobodySaid : Prop := nvmNobodyRow.holds Try.pinned (OpenSpec.ofChange nvmNobodySpec)

/-- ITS FALSE NEIGHBOUR: 'it returns false'. Refute it at one input. -/
def nvmNobodyWrong : ChangeSpec := { name := "nvmNobody", fn := fun _ => fun
  | [d1, d2, d3] => { results := [.lit (.bool false)], args := [d1, d2, d3] }
  | _ => none }
def NvmNobodyWrongFalsely : Prop := nvmNobodyRow.holds Try.pinned (OpenSpec.ofChange nvmNobodyWrong)

/-- 'stillroomlaw03.NvmActs': WHATEVER THE INPUT: true; the input reads as it did. -/
def nvmActsSpec : ChangeSpec := { name := "nvmActs", fn := fun _ => fun
  | [d1, d2] => { results := [.lit (.bool true)], args := [d1, d2] }
  | _ => none }
def nvmActsRow : OpenClaim := { program := "ytkljlgahdlgmpaa", sum := "85511b1b8384bf086e25e10a10b33fbd754ac3b1cd2df320114938350b0af0c0", func := "stillroom/stillroomlaw03.NvmActs", spec := "nvmActs", unfollowed := true, recurses := true, apart := false }
def NvmActsSaid : Prop := nvmActsRow.holds Try.pinned (OpenSpec.ofChange nvmActsSpec)

/-- ITS FALSE NEIGHBOUR: 'it returns false'. Refute it at one input. -/
def nvmActsWrong : ChangeSpec := { name := "nvmActs", fn := fun _ => fun
  | [d1, d2] => { results := [.lit (.bool false)], args := [d1, d2] }
  | _ => none }
def NvmActsWrongFalsely : Prop := nvmActsRow.holds Try.pinned (OpenSpec.ofChange nvmActsWrong)

/-- 'stillroomlaw04.SureBack': WHATEVER THE INPUT: true; the input reads as it did. -/
def sureBackSpec : ChangeSpec := { name := "sureBack", fn := fun _ => fun
  | [d1, d2, d3] => { results := [.lit (.bool true)], args := [d1, d2, d3] }
  | _ => none }
def sureBackRow : OpenClaim := { program := "ytkljlgahdlgmpaa", sum := "85511b1b8384bf086e25e10a10b33fbd754ac3b1cd2df320114938350b0af0c0", func := "stillroom/stillroomlaw04.SureBack", spec := "sureBack", unfollowed := true, recurses := true, apart := false }
def SureBackSaid : Prop := sureBackRow.holds Try.pinned (OpenSpec.ofChange sureBackSpec)

/-- ITS FALSE NEIGHBOUR: 'it returns false'. Refute it at one input. -/
def sureBackWrong : ChangeSpec := { name := "sureBack", fn := fun _ => fun
  | [d1, d2, d3] => { results := [.lit (.bool false)], args := [d1, d2, d3] }
  | _ => none }
def SureBackWrongFalsely : Prop := sureBackRow.holds Try.pinned (OpenSpec.ofChange sureBackWrong)

/-- 'stillroomlaw04.SureDurable': WHATEVER THE INPUT: true; the input reads as it did. -/
def sureDurableSpec : ChangeSpec := { name := "sureDurable", fn := fun _ => fun
  | [d1, d2, d3] => { results := [.lit (.bool true)], args := [d1, d2, d3] }
  | _ => none }
def sureDurableRow : OpenClaim := { program := "ytkljlgahdlgmpaa", sum := "85511b1b8384bf086e25e10a10b33fbd754ac3b1cd2df320114938350b0af0c0", func := "stillroom/stillroomlaw04.SureDurable", spec := "sureDurable", unfollowed := true, recurses := true, apart := false }
def SureDurableSaid : Prop := sureDurableRow.holds Try.pinned (OpenSpec.ofChange sureDurableSpec)

/-- ITS FALSE NEIGHBOUR: 'it returns false'. Refute it at one input. -/
def sureDurableWrong : ChangeSpec := { name := "sureDurable", fn := fun _ => fun
  | [d1, d2, d3] => { results := [.lit (.bool false)], args := [d1, d2, d3] }
  | _ => none }
def SureDurableWrongFalsely : Prop := sureDurableRow.holds Try.pinned (OpenSpec.ofChange sureDurableWrong)

/-- 'stillroomlaw04.SureAlone': WHATEVER THE INPUT: true; the input reads as it did. -/
def sureAloneSpec : ChangeSpec := { name := "sureAlone", fn := fun _ => fun
  | [d] => { results := [.lit (.bool true)], args := [d] }
  | _ => none }
def sureAloneRow : OpenClaim := { program := "ytkljlgahdlgmpaa", sum := "85511b1b8384bf086e25e10a10b33fbd754ac3b1cd2df320114938350b0af0c0", func := "stillroom/stillroomlaw04.SureAlone", spec := "sureAlone", unfollowed := true, recurses := true, apart := false }
def SureAloneSaid : Prop := sureAloneRow.holds Try.pinned (OpenSpec.ofChange sureAloneSpec)

/-- ITS FALSE NEIGHBOUR: 'it returns false'. Refute it at one input. -/
def sureAloneWrong : ChangeSpec := { name := "sureAlone", fn := fun _ => fun
  | [d] => { results := [.lit (.bool false)], args := [d] }
  | _ => none }
def SureAloneWrongFalsely : Prop := sureAloneRow.holds Try.pinned (OpenSpec.ofChange sureAloneWrong)

/- THE SECOND FORM. 'bulk': how many values and letters a reading holds, each counted each time it is reached (what is shared counts as often as it is met; a slice's spare places count too). A statement '..UptoSaid' is the law's where the arguments, and the package variables that the reading takes, are together of bulk at most 1048576: NARROWER than '..Said'. Prove '..Said' where nothing that the law and all that it calls make is longer than what came in: it says more and counts as full. Else prove '..UptoSaid'. A law counts once. -/
mutual
def uptoBulk {H : Type} : DataW H → Nat
  | .lit (.string bytes) => bytes.length + 1
  | .lit _ => 1
  | .nil => 1
  | .ptr d => uptoBulk d + 1
  | .slice elems spare => uptoBulkAll elems + uptoBulkAll spare + 1
  | .agg parts => uptoBulkAll parts + 1
  | .iface _ d => uptoBulk d + 1
  | .map entries => uptoBulkEntries entries + 1
  | .held _ => 1
def uptoBulkAll {H : Type} : List (DataW H) → Nat
  | [] => 0
  | d :: r => uptoBulk d + uptoBulkAll r
def uptoBulkEntries {H : Type} : List (Lit × DataW H) → Nat
  | [] => 0
  | x :: r => uptoBulkEntry x + uptoBulkEntries r
def uptoBulkEntry {H : Type} : Lit × DataW H → Nat
  | (.string bytes, d) => bytes.length + uptoBulk d + 1
  | (_, d) => uptoBulk d + 1
 end
def uptoSmall : (H : Type) → List (DataW H) → Bool := fun _ ds => decide (uptoBulkAll ds ≤ 1048576)
def OpenSpec.upto (s : _root_.Go.ChangeSpec) : _root_.Go.OpenSpec := { _root_.Go.OpenSpec.ofChange s with cond := some uptoSmall }

/-- 'stillroomlaw03.NvmDurable', WHERE WHAT IT READS IS OF BULK AT MOST 1048576: true; the input reads as it did. -/
def nvmDurableUptoRow : OpenClaim := { program := "ytkljlgahdlgmpaa", sum := "85511b1b8384bf086e25e10a10b33fbd754ac3b1cd2df320114938350b0af0c0", func := "stillroom/stillroomlaw03.NvmDurable", spec := "nvmDurable", unfollowed := true, recurses := true, apart := false, narrowed := true }
def NvmDurableUptoSaid : Prop := nvmDurableUptoRow.holds Try.pinned (OpenSpec.upto nvmDurableSpec)

/-- 'stillroomlaw03.NvmContents', WHERE WHAT IT READS IS OF BULK AT MOST 1048576: true; the input reads as it did. -/
def nvmContentsUptoRow : OpenClaim := { program := "ytkljlgahdlgmpaa", sum := "85511b1b8384bf086e25e10a10b33fbd754ac3b1cd2df320114938350b0af0c0", func := "stillroom/stillroomlaw03.NvmContents", spec := "nvmContents", unfollowed := true, recurses := true, apart := false, narrowed := true }
def NvmContentsUptoSaid : Prop := nvmContentsUptoRow.holds Try.pinned (OpenSpec.upto nvmContentsSpec)

/-- 'stillroomlaw03.NvmLoads', WHERE WHAT IT READS IS OF BULK AT MOST 1048576: true; the input reads as it did. -/
def nvmLoadsUptoRow : OpenClaim := { program := "ytkljlgahdlgmpaa", sum := "85511b1b8384bf086e25e10a10b33fbd754ac3b1cd2df320114938350b0af0c0", func := "stillroom/stillroomlaw03.NvmLoads", spec := "nvmLoads", unfollowed := true, recurses := true, apart := false, narrowed := true }
def NvmLoadsUptoSaid : Prop := nvmLoadsUptoRow.holds Try.pinned (OpenSpec.upto nvmLoadsSpec)

/-- 'stillroomlaw03.NvmMay', WHERE WHAT IT READS IS OF BULK AT MOST 1048576: true; the input reads as it did. -/
def nvmMayUptoRow : OpenClaim := { program := "ytkljlgahdlgmpaa", sum := "85511b1b8384bf086e25e10a10b33fbd754ac3b1cd2df320114938350b0af0c0", func := "stillroom/stillroomlaw03.NvmMay", spec := "nvmMay", unfollowed := true, recurses := true, apart := false, narrowed := true }
def NvmMayUptoSaid : Prop := nvmMayUptoRow.holds Try.pinned (OpenSpec.upto nvmMaySpec)

/-- 'stillroomlaw03.NvmStop', WHERE WHAT IT READS IS OF BULK AT MOST 1048576: true; the input reads as it did. -/
def nvmStopUptoRow : OpenClaim := { program := "ytkljlgahdlgmpaa", sum := "85511b1b8384bf086e25e10a10b33fbd754ac3b1cd2df320114938350b0af0c0", func := "stillroom/stillroomlaw03.NvmStop", spec := "nvmStop", unfollowed := true, recurses := true, apart := false, narrowed := true }
def NvmStopUptoSaid : Prop := nvmStopUptoRow.holds Try.pinned (OpenSpec.upto nvmStopSpec)

/-- 'stillroomlaw03.NvmNobody', WHERE WHAT IT READS IS OF BULK AT MOST 1048576: true; the input reads as it did. -/
def nvmNobodyUptoRow : OpenClaim := { program := "ytkljlgahdlgmpaa", sum := "85511b1b8384bf086e25e10a10b33fbd754ac3b1cd2df320114938350b0af0c0", func := "stillroom/stillroomlaw03.NvmNobody", spec := "nvmNobody", unfollowed := true, recurses := true, apart := false, narrowed := true }
def NvmNobodyUptoSaid : Prop := nvmNobodyUptoRow.holds Try.pinned (OpenSpec.upto nvmNobodySpec)

/-- 'stillroomlaw03.NvmActs', WHERE WHAT IT READS IS OF BULK AT MOST 1048576: true; the input reads as it did. -/
def nvmActsUptoRow : OpenClaim := { program := "ytkljlgahdlgmpaa", sum := "85511b1b8384bf086e25e10a10b33fbd754ac3b1cd2df320114938350b0af0c0", func := "stillroom/stillroomlaw03.NvmActs", spec := "nvmActs", unfollowed := true, recurses := true, apart := false, narrowed := true }
def NvmActsUptoSaid : Prop := nvmActsUptoRow.holds Try.pinned (OpenSpec.upto nvmActsSpec)

/-- 'stillroomlaw04.SureBack', WHERE WHAT IT READS IS OF BULK AT MOST 1048576: true; the input reads as it did. -/
def sureBackUptoRow : OpenClaim := { program := "ytkljlgahdlgmpaa", sum := "85511b1b8384bf086e25e10a10b33fbd754ac3b1cd2df320114938350b0af0c0", func := "stillroom/stillroomlaw04.SureBack", spec := "sureBack", unfollowed := true, recurses := true, apart := false, narrowed := true }
def SureBackUptoSaid : Prop := sureBackUptoRow.holds Try.pinned (OpenSpec.upto sureBackSpec)

/-- 'stillroomlaw04.SureDurable', WHERE WHAT IT READS IS OF BULK AT MOST 1048576: true; the input reads as it did. -/
def sureDurableUptoRow : OpenClaim := { program := "ytkljlgahdlgmpaa", sum := "85511b1b8384bf086e25e10a10b33fbd754ac3b1cd2df320114938350b0af0c0", func := "stillroom/stillroomlaw04.SureDurable", spec := "sureDurable", unfollowed := true, recurses := true, apart := false, narrowed := true }
def SureDurableUptoSaid : Prop := sureDurableUptoRow.holds Try.pinned (OpenSpec.upto sureDurableSpec)

/-- 'stillroomlaw04.SureAlone', WHERE WHAT IT READS IS OF BULK AT MOST 1048576: true; the input reads as it did. -/
def sureAloneUptoRow : OpenClaim := { program := "ytkljlgahdlgmpaa", sum := "85511b1b8384bf086e25e10a10b33fbd754ac3b1cd2df320114938350b0af0c0", func := "stillroom/stillroomlaw04.SureAlone", spec := "sureAlone", unfollowed := true, recurses := true, apart := false, narrowed := true }
def SureAloneUptoSaid : Prop := sureAloneUptoRow.holds Try.pinned (OpenSpec.upto sureAloneSpec)

end Rows
end Go.Proofs.Ytkljlgahdlgmpaa
