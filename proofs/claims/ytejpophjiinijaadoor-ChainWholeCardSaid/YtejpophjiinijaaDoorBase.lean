/- What all walks use. -/
import Derived.Test.YtejpophjiinijaaDoorProg
import Derived.Test.YtejpophjiinijaaDoorEng
import Derived.Test.YtejpophjiinijaaDoorCalls
import Derived.Test.YtejpophjiinijaaDoorDraw
import Derived.Test.YtejpophjiinijaaDoorCore
namespace Go.Proofs.YtejpophjiinijaaDoor
set_option linter.unusedVariables false
set_option linter.unusedSimpArgs false
set_option maxRecDepth 100000
open Go Go.RowKit

theorem mixed : Tryd.prog.follows .mixedOrders = true := by kernel_rfl
/-- A number that an int may be. -/
def I64 (z : Int) : Prop := -9223372036854775808 ≤ z ∧ z ≤ 9223372036854775807
theorem ofInt_neg_uv {n : Nat} (x : BitVec n) : BitVec.ofInt n (-uv x) = -x := by rw [BitVec.ofInt_neg, ofInt_uv]
theorem ofInt_tdiv_uv {n : Nat} (x y : BitVec n) : BitVec.ofInt n ((uv x).tdiv (uv y)) = x / y := by
  have e : (uv x).tdiv (uv y) = ((x.toNat / y.toNat : Nat) : Int) := (Int.ofNat_tdiv _ _).symm
  rw [e, BitVec.ofInt_natCast]
  apply BitVec.eq_of_toNat_eq
  rw [BitVec.toNat_udiv, BitVec.toNat_ofNat, Nat.mod_eq_of_lt]
  exact Nat.lt_of_le_of_lt (Nat.div_le_self _ _) x.isLt
theorem BelowR {w : World} : Below w.heap.size w w := Below.refl _ _
attribute [go_sem] ofInt_neg_uv ofInt_tdiv_uv

end Go.Proofs.YtejpophjiinijaaDoor
