/- PoolFills: its walk. -/
import Derived.Test.YtcpackbljaabnaaGreatDoorPoolLaw1
import Derived.Test.YtcpackbljaabnaaGreatDoorPoolFill0
namespace Go.Proofs.YtcpackbljaabnaaGreatDoor
set_option linter.unusedVariables false
set_option linter.unusedSimpArgs false
set_option maxRecDepth 100000
open Go Go.RowKit

theorem beginL {m : Nat} {L : Int} (hm : 1 ≤ m ∧ m ≤ 4) (hL : L = ((3 + 16 * m : Nat) : Int)) (w : World) (h : Fours w) : Ret Tryz.prog 5 #[.int .i64 L] w fun v w' => ∃ p b tb tc hb hc F, v = .tuple #[.pointer (some ⟨p, 0, none⟩), .pointer (some ⟨b, 0, none⟩)] ∧
      PD w' b p (shN m) (zL m) (zL m) tb tc hb hc F (begD m) ∧ Below w.heap.size w w' ∧ (∀ k, PdK b tb hb F k → w.heap.size ≤ k) := by
  have := begin_calls m hm w h
  rw [← hL] at this; exact this
theorem linesL {x0 : BitVec 8} {m : Nat} {L : Int} (hm : m = 1 + x0.toNat % 4) (hL : L = ((3 + 16 * m : Nat) : Int)) (w : World) : Ret Tryz.prog 6 #[.int .u8 (uv x0)] w fun v w' => v = .int .i64 L ∧ w' = w := by
  have := poolLines_calls x0 w
  rw [← hm, ← hL] at this; exact this
end Go.Proofs.YtcpackbljaabnaaGreatDoor
