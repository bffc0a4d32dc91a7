/- Slabs as words: the walks of slab. -/
import Derived.Test.YtcaekgkogiggoaaDoorWordWalk
import Derived.Test.YtcaekgkogiggoaaDoorSlabMath
import Derived.Test.YtcaekgkogiggoaaDoorVs
namespace Go.Proofs.YtcaekgkogiggoaaDoor
open Go Go.RowKit

set_option linter.unusedSimpArgs false in
theorem blocks_calls (c : Int) (w : World) : Ret Tryd.prog 27 #[.int .i64 c] w fun v w' => v = .int .i64 (WM.blocksI c) ∧ w' = w := by
  refine ret_of (args := [_]) _ Tryd.func27 rfl Tryd.ntmps27 (by simp) ?_
  by_cases h1 : c = 1
  · subst h1
    simp -implicitDefEqProofs [go_sem]
    refine body_tmp 2 rfl ?_
    simp -implicitDefEqProofs [go_sem, WM.blocksI]
  · have h1' : (c == 1) = false := by rw [beq_eq_false_iff_ne]; exact h1
    by_cases h2 : c = 2
    · subst h2
      simp -implicitDefEqProofs [go_sem]
      refine body_tmp 2 rfl ?_
      simp -implicitDefEqProofs [go_sem, WM.blocksI]
    · have h2' : (c == 2) = false := by rw [beq_eq_false_iff_ne]; exact h2
      simp -implicitDefEqProofs [go_sem, h1', h2']
      refine body_tmp 2 rfl ?_
      simp -implicitDefEqProofs [go_sem, WM.blocksI, h1, h2]
theorem kind_range (w : BitVec 64) : 0 ≤ uv (WM.kindW w) ∧ uv (WM.kindW w) < 4 := by
  obtain ⟨k, hk, h⟩ := WM.kind_lt w
  rw [h, WM.uv_ofNat4 hk]; omega
set_option linter.unusedSimpArgs false in
theorem kind_calls (x : BitVec 64) (w : World) : Ret Tryd.prog 49 #[.int .u64 (uv x)] w fun v w' => v = .int .i64 (WM.kindM x) ∧ Below w.heap.size w w' := by
  have hk := kind_range x
  have hw := IntWalk.i64_in (uv (WM.kindW x)) (by omega)
  refine ret_of (args := [_]) _ Tryd.func49 rfl Tryd.ntmps49 (by simp) ?_
  simp -implicitDefEqProofs [go_sem]
  refine callE_of (field_calls x 16 2 w) ?_
  rintro v w1 ⟨rfl, b1⟩
  rw [show WM.fieldM x 16 2 = WM.kindW x from rfl]
  simp -implicitDefEqProofs [go_sem, hw]
  refine body_tmp 2 rfl ?_
  simp -implicitDefEqProofs [go_sem, WM.kindM]
  exact b1
set_option linter.unusedSimpArgs false in
theorem taken_calls (x : BitVec 64) (w : World) : Ret Tryd.prog 47 #[.int .u64 (uv x)] w fun v w' => v = .int .u64 (uv (WM.takenM x)) ∧ Below w.heap.size w w' := by
  refine ret_of (args := [_]) _ Tryd.func47 rfl Tryd.ntmps47 (by simp) ?_
  simp -implicitDefEqProofs [go_sem]
  refine callE_of (field_calls x 0 16 w) ?_
  rintro v w1 ⟨rfl, b1⟩
  simp -implicitDefEqProofs [go_sem]
  refine body_tmp 2 rfl ?_
  simp -implicitDefEqProofs [go_sem, WM.takenM]
  exact b1
theorem right_eq (x : BitVec 64) (hx : (x == 0#64) = false) : WM.rightM x = ((WM.fieldM x 0 (WM.blocksI (WM.kindM x)) != 0#64) && (WM.withM (WM.withM x 0 (WM.blocksI (WM.kindM x)) 0#64) 16 2 0#64 == 0#64)) := by
  unfold WM.rightM; rw [hx]; rfl
set_option linter.unusedSimpArgs false in
theorem right_calls (x : BitVec 64) (w0 : World) : Ret Tryd.prog 31 #[.int .u64 (uv x)] w0 fun v w' => v = .bool (WM.rightM x) ∧ Below w0.heap.size w0 w' := by
  have bel0 := Below.refl w0.heap.size w0
  have hW := fun n low size w => with_calls n low size 0#64 w
  rw [show uv 0#64 = 0 from rfl] at hW
  refine ret_of (args := [_]) _ Tryd.func31 rfl Tryd.ntmps31 (by simp) ?_
  cases hx : x == 0#64
  · have hr := right_eq x hx
    simp -implicitDefEqProofs [go_sem, hx]
    refine callE_of (kind_calls x w0) ?_
    rintro v w1 ⟨rfl, b1⟩
    have bel1 := bel0.trans (b1.mono bel0.size)
    simp -implicitDefEqProofs [go_sem]
    refine callE_of (blocks_calls _ w1) ?_
    rintro v w2 ⟨rfl, rfl⟩
    simp -implicitDefEqProofs [go_sem]
    refine callE_of (field_calls x 0 _ w2) ?_
    rintro v w3 ⟨rfl, b3⟩
    have bel3 := bel1.trans (b3.mono bel1.size)
    cases h1 : WM.fieldM x 0 (WM.blocksI (WM.kindM x)) != 0#64
    · simp -implicitDefEqProofs [go_sem, h1]
      refine body_tmp 2 rfl ?_
      simp -implicitDefEqProofs [go_sem, hr, h1]
      exact bel3
    · simp -implicitDefEqProofs [go_sem, h1]
      refine callE_of (hW x 0 _ w3) ?_
      rintro v w4 ⟨rfl, b4⟩
      have bel4 := bel3.trans (b4.mono bel3.size)
      simp -implicitDefEqProofs [go_sem]
      refine callE_of (hW _ 16 2 w4) ?_
      rintro v w5 ⟨rfl, b5⟩
      have bel5 := bel4.trans (b5.mono bel4.size)
      simp -implicitDefEqProofs [go_sem]
      refine body_tmp 2 rfl ?_
      simp -implicitDefEqProofs [go_sem, hr, h1]
      exact bel5
  · simp -implicitDefEqProofs [go_sem, hx]
    refine body_tmp 2 rfl ?_
    simp -implicitDefEqProofs [go_sem, WM.rightM, hx]
    exact bel0
set_option linter.unusedSimpArgs false in
theorem class_calls (x : BitVec 64) (w0 : World) : Ret Tryd.prog 32 #[.int .u64 (uv x)] w0 fun v w' => v = .int .i64 (WM.classM x) ∧ Below w0.heap.size w0 w' := by
  have bel0 := Below.refl w0.heap.size w0
  refine ret_of (args := [_]) _ Tryd.func32 rfl Tryd.ntmps32 (by simp) ?_
  simp -implicitDefEqProofs [go_sem]
  refine callE_of (right_calls x w0) ?_
  rintro v w1 ⟨rfl, b1⟩
  have bel1 := bel0.trans (b1.mono bel0.size)
  cases h1 : WM.rightM x
  · simp -implicitDefEqProofs [go_sem]
    refine body_tmp 2 rfl ?_
    simp -implicitDefEqProofs [go_sem, WM.classM, h1]
    exact bel1
  · simp -implicitDefEqProofs [go_sem]
    refine callE_of (kind_calls x w1) ?_
    rintro v w2 ⟨rfl, b2⟩
    have bel2 := bel1.trans (b2.mono bel1.size)
    simp -implicitDefEqProofs [go_sem]
    refine body_tmp 2 rfl ?_
    simp -implicitDefEqProofs [go_sem, WM.classM, h1]
    exact bel2
set_option linter.unusedSimpArgs false in
theorem has_calls' (x : BitVec 64) (p : Int) (w0 : World) : Ret Tryd.prog 29 #[.int .u64 (uv x), .int .i64 p] w0 fun v w' => v = .bool (WM.hasM x p) ∧ Below w0.heap.size w0 w' := by
  have bel0 := Below.refl w0.heap.size w0
  refine ret_of (args := [_, _]) _ Tryd.func29 rfl Tryd.ntmps29 (by simp) ?_
  by_cases h0 : 0 ≤ p
  · simp -implicitDefEqProofs [go_sem, h0]
    refine callE_of (class_calls x w0) ?_
    rintro v w1 ⟨rfl, b1⟩
    have bel1 := bel0.trans (b1.mono bel0.size)
    simp -implicitDefEqProofs [go_sem]
    refine callE_of (blocks_calls _ w1) ?_
    rintro v w2 ⟨rfl, rfl⟩
    by_cases h1 : p < WM.blocksI (WM.classM x)
    · simp -implicitDefEqProofs [go_sem, h1]
      refine callE_of (field_calls x p 1 w2) ?_
      rintro v w3 ⟨rfl, b3⟩
      simp -implicitDefEqProofs [go_sem]
      refine body_tmp 4 rfl ?_
      simp -implicitDefEqProofs [go_sem, WM.hasM, h0, h1]
      exact bel1.trans (b3.mono bel1.size)
    · simp -implicitDefEqProofs [go_sem, h1]
      refine body_tmp 4 rfl ?_
      simp -implicitDefEqProofs [go_sem, WM.hasM, h0, h1]
      exact bel1
  · simp -implicitDefEqProofs [go_sem, h0]
    refine body_tmp 4 rfl ?_
    simp -implicitDefEqProofs [go_sem, WM.hasM, h0]
    exact bel0
set_option linter.unusedSimpArgs false in
theorem meets_calls (x : BitVec 64) (c : Int) (w0 : World) : Ret Tryd.prog 45 #[.int .u64 (uv x), .int .i64 c] w0 fun v w' => v = .bool (WM.meetsM x c) ∧ Below w0.heap.size w0 w' := by
  have bel0 := Below.refl w0.heap.size w0
  refine ret_of (args := [_, _]) _ Tryd.func45 rfl Tryd.ntmps45 (by simp) ?_
  simp -implicitDefEqProofs [go_sem]
  refine callE_of (right_calls x w0) ?_
  rintro v w1 ⟨rfl, b1⟩
  have bel1 := bel0.trans (b1.mono bel0.size)
  cases h1 : WM.rightM x
  · simp -implicitDefEqProofs [go_sem]
    refine body_tmp 4 rfl ?_
    simp -implicitDefEqProofs [go_sem, WM.meetsM, h1]
    exact bel1
  · simp -implicitDefEqProofs [go_sem]
    refine callE_of (blocks_calls _ w1) ?_
    rintro v w2 ⟨rfl, rfl⟩
    by_cases h2 : 0 < WM.blocksI c
    · cases h3 : x == 0#64
      · simp -implicitDefEqProofs [go_sem, h2, h3]
        refine callE_of (kind_calls x w2) ?_
        rintro v w3 ⟨rfl, b3⟩
        simp -implicitDefEqProofs [go_sem]
        refine body_tmp 4 rfl ?_
        simp -implicitDefEqProofs [go_sem, WM.meetsM, h1, h2, h3]
        exact bel1.trans (b3.mono bel1.size)
      · simp -implicitDefEqProofs [go_sem, h2, h3]
        refine body_tmp 4 rfl ?_
        simp -implicitDefEqProofs [go_sem, WM.meetsM, h1, h2, h3]
        exact bel1
    · simp -implicitDefEqProofs [go_sem, h2]
      refine body_tmp 4 rfl ?_
      simp -implicitDefEqProofs [go_sem, WM.meetsM, h1, h2]
      exact bel1
set_option linter.unusedSimpArgs false in
theorem next_calls (x : BitVec 64) (c : Int) (w0 : World) (hT : Tabs w0) : Ret Tryd.prog 28 #[.int .u64 (uv x), .int .i64 c] w0 fun v w' => v = .int .i64 (WM.nextM x c) ∧ Below w0.heap.size w0 w' := by
  have bel0 := Below.refl w0.heap.size w0
  refine ret_of (args := [_, _]) _ Tryd.func28 rfl Tryd.ntmps28 (by simp) ?_
  simp -implicitDefEqProofs [go_sem]
  refine callE_of (meets_calls x c w0) ?_
  rintro v w1 ⟨rfl, b1⟩
  have bel1 := bel0.trans (b1.mono bel0.size)
  replace hT := hT.next b1
  cases h1 : WM.meetsM x c
  · simp -implicitDefEqProofs [go_sem]
    refine body_tmp 4 rfl ?_
    simp -implicitDefEqProofs [go_sem, WM.nextM, h1]
    exact bel1
  · simp -implicitDefEqProofs [go_sem]
    refine callE_of (taken_calls x w1) ?_
    rintro v w2 ⟨rfl, b2⟩
    have bel2 := bel1.trans (b2.mono bel1.size)
    replace hT := hT.next b2
    simp -implicitDefEqProofs [go_sem]
    refine callE_of (blocks_calls _ w2) ?_
    rintro v w3 ⟨rfl, rfl⟩
    simp -implicitDefEqProofs [go_sem]
    refine callE_of (low_calls _ _ w3 hT) ?_
    rintro v w4 ⟨rfl, b4⟩
    simp -implicitDefEqProofs [go_sem]
    refine body_tmp 4 rfl ?_
    simp -implicitDefEqProofs [go_sem, WM.nextM, h1]
    exact bel2.trans (b4.mono bel2.size)
set_option linter.unusedSimpArgs false in
theorem take_calls (x : BitVec 64) (c p : Int) (w0 : World) : Ret Tryd.prog 23 #[.int .u64 (uv x), .int .i64 c, .int .i64 p] w0 fun v w' => v = .tuple #[.int .u64 (uv (WM.takeW x c p)), .bool (WM.takeOk x c p)] ∧ Below w0.heap.size w0 w' := by
  have bel0 := Below.refl w0.heap.size w0
  have hW := fun n low size w => with_calls n low size 1#64 w
  rw [show uv 1#64 = 1 from rfl] at hW
  refine ret_of (args := [_, _, _]) _ Tryd.func23 rfl Tryd.ntmps23 (by simp) ?_
  simp -implicitDefEqProofs [go_sem]
  refine callE_of (meets_calls x c w0) ?_
  rintro v w1 ⟨rfl, b1⟩
  have bel1 := bel0.trans (b1.mono bel0.size)
  cases h1 : WM.meetsM x c
  · simp -implicitDefEqProofs [go_sem]
    refine body_tmp2 6 7 rfl ?_
    simp -implicitDefEqProofs [go_sem, WM.takeW, WM.takeOk, h1]
    exact bel1
  by_cases h2 : p < 0
  · have h2' : ¬ 0 ≤ p := by omega
    simp -implicitDefEqProofs [go_sem, h2]
    refine body_tmp2 6 7 rfl ?_
    simp -implicitDefEqProofs [go_sem, WM.takeW, WM.takeOk, h1, h2']
    exact bel1
  have h2' : 0 ≤ p := by omega
  simp -implicitDefEqProofs [go_sem, h2]
  refine callE_of (blocks_calls _ w1) ?_
  rintro v w2 ⟨rfl, rfl⟩
  by_cases h3 : WM.blocksI c ≤ p
  · have h3' : ¬ p < WM.blocksI c := by omega
    simp -implicitDefEqProofs [go_sem, h3]
    refine body_tmp2 6 7 rfl ?_
    simp -implicitDefEqProofs [go_sem, WM.takeW, WM.takeOk, h1, h2', h3']
    exact bel1
  have h3' : p < WM.blocksI c := by omega
  simp -implicitDefEqProofs [go_sem, h3]
  refine callE_of (has_calls' x p w2) ?_
  rintro v w3 ⟨rfl, b3⟩
  have bel3 := bel1.trans (b3.mono bel1.size)
  cases h4 : WM.hasM x p
  · simp -implicitDefEqProofs [go_sem]
    refine callE_of (hW x p 1 w3) ?_
    rintro v w4 ⟨rfl, b4⟩
    have bel4 := bel3.trans (b4.mono bel3.size)
    simp -implicitDefEqProofs [go_sem]
    refine callE_of (with_calls _ 16 2 _ w4) ?_
    rintro v w5 ⟨rfl, b5⟩
    have bel5 := bel4.trans (b5.mono bel4.size)
    simp -implicitDefEqProofs [go_sem]
    refine body_tmp2 6 7 rfl ?_
    simp -implicitDefEqProofs [go_sem, WM.takeW, WM.takeOk, h1, h2', h3', h4]
    exact bel5
  · simp -implicitDefEqProofs [go_sem]
    refine body_tmp2 6 7 rfl ?_
    simp -implicitDefEqProofs [go_sem, WM.takeW, WM.takeOk, h1, h2', h3', h4]
    exact bel3
set_option linter.unusedSimpArgs false in
theorem drop_calls (x : BitVec 64) (p : Int) (w0 : World) : Ret Tryd.prog 25 #[.int .u64 (uv x), .int .i64 p] w0 fun v w' => v = .tuple #[.int .u64 (uv (WM.dropW x p)), .bool (WM.hasM x p)] ∧ Below w0.heap.size w0 w' := by
  have bel0 := Below.refl w0.heap.size w0
  have hW := fun n low size w => with_calls n low size 0#64 w
  rw [show uv 0#64 = 0 from rfl] at hW
  refine ret_of (args := [_, _]) _ Tryd.func25 rfl Tryd.ntmps25 (by simp) ?_
  simp -implicitDefEqProofs [go_sem]
  refine callE_of (has_calls' x p w0) ?_
  rintro v w1 ⟨rfl, b1⟩
  have bel1 := bel0.trans (b1.mono bel0.size)
  cases h1 : WM.hasM x p
  · simp -implicitDefEqProofs [go_sem]
    refine body_tmp2 4 5 rfl ?_
    simp -implicitDefEqProofs [go_sem, WM.dropW, h1]
    exact bel1
  · simp -implicitDefEqProofs [go_sem]
    refine callE_of (hW x p 1 w1) ?_
    rintro v w2 ⟨rfl, b2⟩
    have bel2 := bel1.trans (b2.mono bel1.size)
    rw [show WM.withM x p 1 0#64 = WM.lessM x p from rfl]
    simp -implicitDefEqProofs [go_sem]
    refine callE_of (taken_calls _ w2) ?_
    rintro v w3 ⟨rfl, b3⟩
    have bel3 := bel2.trans (b3.mono bel2.size)
    cases h2 : WM.takenM (WM.lessM x p) == 0#64
    · simp -implicitDefEqProofs [go_sem, h2]
      refine body_tmp2 4 5 rfl ?_
      simp -implicitDefEqProofs [go_sem, WM.dropW, h1, h2]
      exact bel3
    · simp -implicitDefEqProofs [go_sem, h2]
      refine body_tmp2 4 5 rfl ?_
      have h2' : WM.takenM (WM.lessM x p) = 0#64 := by simpa using h2
      simp -implicitDefEqProofs [go_sem, WM.dropW, h1, h2', show uv 0#64 = 0 from rfl]
      exact bel3
end Go.Proofs.YtcaekgkogiggoaaDoor
