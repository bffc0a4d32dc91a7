/- PoolNobody: its walk. -/
import Derived.Test.YtcpackbljaabnaaGreatDoorPoolAlive
import Derived.Test.YtcpackbljaabnaaGreatDoorPoolWb
namespace Go.Proofs.YtcpackbljaabnaaGreatDoor
set_option linter.unusedVariables false
set_option linter.unusedSimpArgs false
set_option maxRecDepth 100000
open Go Go.RowKit

theorem poolLines_calls (x : BitVec 8) (w : World) : Ret Tryz.prog 6 #[.int .u8 (uv x)] w fun v w' => v = .int .i64 ((3 + 16 * (1 + x.toNat % 4) : Nat) : Int) ∧ w' = w := by
  have h4 : (x % 4#8).toNat = x.toNat % 4 := by simp
  have k1 := IntWalk.i64_in (1 + uv (x % 4#8)) (by unfold uv; omega)
  have k2 := IntWalk.i64_in (16 * (1 + uv (x % 4#8))) (by unfold uv; omega)
  have k3 := IntWalk.i64_in (3 + 16 * (1 + uv (x % 4#8))) (by unfold uv; omega)
  have k4 : IntKind.i64.wrap (uv (x % 4#8)) = uv (x % 4#8) := IntWalk.i64_in _ (by unfold uv; omega)
  refine ret_of (args := [_]) _ Tryz.func6 rfl Tryz.ntmps6 (by simp) ?_
  simp -implicitDefEqProofs [go_sem, k1, k2, k3, k4]
  refine body_tmp 2 rfl ?_
  simp -implicitDefEqProofs [go_sem, k1, k2, k3, k4]
  unfold uv; omega
end Go.Proofs.YtcpackbljaabnaaGreatDoor
