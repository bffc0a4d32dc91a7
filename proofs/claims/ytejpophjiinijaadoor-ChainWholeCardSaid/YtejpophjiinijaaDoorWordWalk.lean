/- Words and their bits: the walks of word and of its reference. -/
import Derived.Test.YtejpophjiinijaaDoorProg
import Derived.Test.YtejpophjiinijaaDoorEng
import Derived.Test.YtejpophjiinijaaDoorCalls
import Derived.Test.YtejpophjiinijaaDoorDraw
import Derived.Test.YtejpophjiinijaaDoorCore
import Derived.Test.YtejpophjiinijaaDoorBase
import Derived.Test.YtejpophjiinijaaDoorWordMath
namespace Go.Proofs.YtejpophjiinijaaDoor
set_option linter.unusedVariables false
set_option linter.unusedSimpArgs false
set_option maxRecDepth 100000
open Go Go.RowKit

/-- de Bruijn's table, as the program's variable has it. -/
def Tabs (w : World) : Prop := ∀ j, j < 64 → w.cell? ⟨0, j, none⟩ = some (.int .u8 (uv (WM.tab.getD j 0#8)))
theorem Tabs.next {w w' : World} (h : Tabs w) (hb : Below w.heap.size w w') : Tabs w' := fun j hj => (hb.cell (p := ⟨_, _, none⟩) (World.block_lt_of_cell? w _ (h j hj))).trans (h j hj)
theorem Tabs.drew {w : World} (h : Tabs w) : Tabs w.drew := h
theorem low_eq (low : Int) : min (max low 0) 64 = (WM.lowM low : Int) := by unfold WM.lowM; omega
theorem size_eq (low size : Int) : min (max size 0) (64 - (WM.lowM low : Int)) = (WM.sizeM low size : Int) := by unfold WM.sizeM; have := WM.lowM_le low; omega

set_option linter.unusedSimpArgs false in
theorem span_calls (low size : Int) (w : World) :
    Ret Tryd.prog 102 #[.int .i64 low, .int .i64 size] w fun v w' => v = .tuple #[.int .i64 (WM.lowM low), .int .u64 (uv (WM.ones (WM.sizeM low size)))] ∧ Below w.heap.size w w' := by
  have h1 := low_eq low
  have h2 := size_eq low size
  have h3 := IntWalk.i64_in (64 - (WM.lowM low : Int)) (by have := WM.lowM_le low; omega)
  refine ret_of (args := [_, _]) _ Tryd.func102 rfl Tryd.ntmps102 (by simp) ?_
  simp -implicitDefEqProofs [go_sem, h1, h2, h3]
  refine drawE_still mixed (by decide +kernel) ?_
  simp -implicitDefEqProofs [go_sem]
  unfold endE
  simp -implicitDefEqProofs [go_sem]
  refine body_tmp2 4 5 rfl ?_
  simp -implicitDefEqProofs [go_sem, WM.ones]
  exact BelowR.drew
set_option linter.unusedSimpArgs false in
theorem field_calls (n : BitVec 64) (low size : Int) (w : World) :
    Ret Tryd.prog 84 #[.int .u64 (uv n), .int .i64 low, .int .i64 size] w fun v w' => v = .int .u64 (uv (WM.fieldM n low size)) ∧ Below w.heap.size w w' := by
  refine ret_of (args := [_, _, _]) _ Tryd.func84 rfl Tryd.ntmps84 (by simp) ?_
  simp -implicitDefEqProofs [go_sem]
  refine callE_of (span_calls low size w) ?_
  rintro v w1 ⟨rfl, b1⟩
  simp -implicitDefEqProofs [go_sem]
  refine body_tmp 6 rfl ?_
  simp -implicitDefEqProofs [go_sem, WM.fieldM]
  exact b1
set_option linter.unusedSimpArgs false in
theorem with_calls (n : BitVec 64) (low size : Int) (x : BitVec 64) (w : World) :
    Ret Tryd.prog 85 #[.int .u64 (uv n), .int .i64 low, .int .i64 size, .int .u64 (uv x)] w fun v w' => v = .int .u64 (uv (WM.withM n low size x)) ∧ Below w.heap.size w w' := by
  refine ret_of (args := [_, _, _, _]) _ Tryd.func85 rfl Tryd.ntmps85 (by simp) ?_
  simp -implicitDefEqProofs [go_sem]
  refine callE_of (span_calls low size w) ?_
  rintro v w1 ⟨rfl, b1⟩
  simp -implicitDefEqProofs [go_sem]
  refine drawE_still mixed (by decide +kernel) ?_
  simp -implicitDefEqProofs [go_sem]
  unfold endE
  simp -implicitDefEqProofs [go_sem]
  refine body_tmp 8 rfl ?_
  simp -implicitDefEqProofs [go_sem, WM.withM]
  exact b1.drew
set_option linter.unusedSimpArgs false in
theorem zeros_calls (x : BitVec 64) (w : World) (hT : Tabs w) :
    Ret Tryd.prog 106 #[.int .u64 (uv x)] w fun v w' => ∃ t : Nat, v = .int .i64 t ∧ WM.Zeros x t ∧ w' = w := by
  refine ret_of (args := [_]) _ Tryd.func106 rfl Tryd.ntmps106 (by simp) ?_
  by_cases hx : x = 0#64
  · subst hx
    simp -implicitDefEqProofs [go_sem]
    refine body_tmp 2 rfl ?_
    simp -implicitDefEqProofs [go_sem]
    exact ⟨64, rfl, WM.zeros_zero⟩
  · have hx' : (x == 0#64) = false := by rw [beq_eq_false_iff_ne]; exact hx
    obtain ⟨i, hi⟩ : ∃ i, i = idx (((x &&& -x) * 285870213051353865#64) >>> 58) := ⟨_, rfl⟩
    have hi64 : i < 64 := by
      rw [hi]; unfold idx; rw [BitVec.toNat_ushiftRight, Nat.shiftRight_eq_div_pow]
      have := ((x &&& -x) * 285870213051353865#64).isLt
      omega
    have hui : uv (((x &&& -x) * 285870213051353865#64) >>> 58) = (i : Int) := by rw [hi]; rfl
    have hc := hT i hi64
    have hi64' : (i : Int) < 64 := by omega
    have hte : (WM.tab.getD i 0#8).toNat = WM.tabAt x := by rw [hi]; rfl
    have hcv : IntKind.i64.wrap (uv (WM.tab.getD i 0#8)) = (WM.tabAt x : Int) := by
      rw [← hte, IntWalk.i64_in _ (by unfold uv; have := (WM.tab.getD i 0#8).isLt; omega)]; rfl
    generalize WM.tab.getD i 0#8 = y at *
    simp -implicitDefEqProofs [go_sem, hx', hui, hi64', hi64, hc, hcv]
    refine body_tmp 2 rfl ?_
    simp -implicitDefEqProofs [go_sem]
    exact ⟨_, rfl, WM.tab_zeros x hx⟩
set_option linter.unusedSimpArgs false in
theorem low_calls (n : BitVec 64) (many : Int) (w : World) (hT : Tabs w) :
    Ret Tryd.prog 97 #[.int .u64 (uv n), .int .i64 many] w fun v w' => v = .int .i64 (WM.lowOff n many) ∧ Below w.heap.size w w' := by
  refine ret_of (args := [_, _]) _ Tryd.func97 rfl Tryd.ntmps97 (by simp) ?_
  simp -implicitDefEqProofs [go_sem]
  refine callE_of (zeros_calls (~~~n) w hT) ?_
  rintro v w1 ⟨t, rfl, hz, rfl⟩
  have hl := WM.lowOff_zeros n many t hz
  by_cases hlt : (t : Int) < min many 64
  · rw [if_pos hlt] at hl
    simp -implicitDefEqProofs [go_sem, hlt]
    refine body_tmp 4 rfl ?_
    simp -implicitDefEqProofs [go_sem, hl]
    exact BelowR
  · rw [if_neg hlt] at hl
    simp -implicitDefEqProofs [go_sem, hlt]
    refine body_tmp 4 rfl ?_
    simp -implicitDefEqProofs [go_sem, hl]
    exact BelowR

/-! ### The reference -/
end Go.Proofs.YtejpophjiinijaaDoor
