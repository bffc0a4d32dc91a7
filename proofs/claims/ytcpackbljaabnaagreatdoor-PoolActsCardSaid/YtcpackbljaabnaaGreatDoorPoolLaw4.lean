/- PoolAgain: its walk. -/
import Derived.Test.YtcpackbljaabnaaGreatDoorPoolLaw3
import Derived.Test.YtcpackbljaabnaaGreatDoorPoolGood
import Derived.Test.YtcpackbljaabnaaGreatDoorPoolActs
import Derived.Test.YtcpackbljaabnaaGreatDoorPoolInts
namespace Go.Proofs.YtcpackbljaabnaaGreatDoor
set_option linter.unusedVariables false
set_option linter.unusedSimpArgs false
set_option maxRecDepth 100000
open Go Go.RowKit

/-- Open of a device that a pool knows. -/
theorem openWell_calls {m k : Nat} {V : PV} {p : Nat} {F : Nat → Prop} (hm : 1 ≤ m ∧ m ≤ 4) (hg : Good m k V) (w : World) (h : DevB w p F V.D) (hF : Fours w) :
    Ret Tryz.prog 22 #[.pointer (some ⟨p, 0, none⟩)] w fun v w' => ∃ q ta tac ha hac, v = .tuple #[.pointer (some ⟨q, 0, none⟩), .int .i64 0] ∧ PoolAt w' q p (shN m) V.T (zL m) ta tac ha hac ∧ Below w.heap.size w w' ∧ (∀ k, (k = q ∨ k = ta ∨ k = ha) → w.heap.size ≤ k) := by
  obtain ⟨t1, t2⟩ := well_tab hg.well hm
  refine (poolOpen_calls m w h hF (by omega) (fun _ => by rw [hg.open_]; exact ⟨rfl, rfl⟩)).mono ?_
  intro v w' hO
  unfold OpenP at hO
  rw [hg.open_, t1, t2] at hO
  rcases hO with ⟨h, _⟩ | ⟨_, ⟨e, h, _⟩ | ⟨_, q, ta, tac, ha, hac, rfl, hQ, hb', hgq⟩⟩
  · exact absurd rfl h
  · cases h
  · exact ⟨q, ta, tac, ha, hac, rfl, hQ, hb', hgq⟩
theorem dat_ok (m : Nat) : 0 ≤ (shN m).data ∧ (shN m).data ≤ 1000000 := ⟨show (0 : Int) ≤ 192 by decide, show (192 : Int) ≤ 1000000 by decide⟩
theorem mod2_cases (x : BitVec 8) : ∃ c : Nat, (c = 1 ∨ c = 2) ∧ 1 + uv (x % 2#8) = (c : Int) ∧ I64 (uv (x % 2#8)) := by
  have h : (x % 2#8).toNat = x.toNat % 2 := by simp
  refine ⟨1 + x.toNat % 2, by omega, ?_, ?_⟩
  · unfold uv; rw [h]; omega
  · unfold uv I64; omega
/-- A pool's blocks lie apart from others. -/
def Away (G : Nat → Prop) (b tb hb : Nat) : Prop := ∀ k, (k = b ∨ k = tb ∨ k = hb) → ¬ G k
def AwayS (G : Nat → Prop) (a : Option Addr) : Prop := ∀ y, a = some y → ¬ G y.block
end Go.Proofs.YtcpackbljaabnaaGreatDoor
