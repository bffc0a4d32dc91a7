/- SlabW: texts in one: SlabWalk, SlabRef, SlabRef2. -/
import Derived.Test.YtcpackbljaabnaaGreatDoorWordWalk
import Derived.Test.YtcpackbljaabnaaGreatDoorSlabM
import Derived.Test.YtcpackbljaabnaaGreatDoorCore
/-! ### SlabWalk -/
namespace Go.Proofs.YtcpackbljaabnaaGreatDoor
set_option linter.unusedVariables false
set_option linter.unusedSimpArgs false
set_option maxRecDepth 100000
open Go Go.RowKit

set_option linter.unusedSimpArgs false in
theorem blocks_calls (c : Int) (w : World) : Ret Tryz.prog 29 #[.int .i64 c] w fun v w' => v = .int .i64 (WM.blocksI c) ∧ w' = w := by
  refine ret_of (args := [_]) _ Tryz.func29 rfl Tryz.ntmps29 (by simp) ?_
  by_cases h1 : c = 1
  · subst h1
    simp -implicitDefEqProofs [go_sem]
    refine body_tmp 2 rfl ?_
    simp -implicitDefEqProofs [go_sem, WM.blocksI]
  · have h1' : (c == 1) = false := by rw [beq_eq_false_iff_ne]; exact h1
    by_cases h2 : c = 2
    · subst h2
      simp -implicitDefEqProofs [go_sem]
      refine body_tmp 2 rfl ?_
      simp -implicitDefEqProofs [go_sem, WM.blocksI]
    · have h2' : (c == 2) = false := by rw [beq_eq_false_iff_ne]; exact h2
      simp -implicitDefEqProofs [go_sem, h1', h2']
      refine body_tmp 2 rfl ?_
      simp -implicitDefEqProofs [go_sem, WM.blocksI, h1, h2]
theorem kind_range (w : BitVec 64) : 0 ≤ uv (WM.kindW w) ∧ uv (WM.kindW w) < 4 := by
  obtain ⟨k, hk, h⟩ := WM.kind_lt w
  rw [h, WM.uv_ofNat4 hk]; omega
set_option linter.unusedSimpArgs false in
theorem kind_calls (x : BitVec 64) (w : World) : Ret Tryz.prog 77 #[.int .u64 (uv x)] w fun v w' => v = .int .i64 (WM.kindM x) ∧ Below w.heap.size w w' := by
  have hk := kind_range x
  have hw := IntWalk.i64_in (uv (WM.kindW x)) (by omega)
  refine ret_of (args := [_]) _ Tryz.func77 rfl Tryz.ntmps77 (by simp) ?_
  simp -implicitDefEqProofs [go_sem]
  refine callE_of (field_calls x 16 2 w) ?_
  rintro v w1 ⟨rfl, b1⟩
  rw [show WM.fieldM x 16 2 = WM.kindW x from rfl]
  simp -implicitDefEqProofs [go_sem, hw]
  refine body_tmp 2 rfl ?_
  simp -implicitDefEqProofs [go_sem, WM.kindM]
  exact b1
set_option linter.unusedSimpArgs false in
theorem taken_calls (x : BitVec 64) (w : World) : Ret Tryz.prog 69 #[.int .u64 (uv x)] w fun v w' => v = .int .u64 (uv (WM.takenM x)) ∧ Below w.heap.size w w' := by
  refine ret_of (args := [_]) _ Tryz.func69 rfl Tryz.ntmps69 (by simp) ?_
  simp -implicitDefEqProofs [go_sem]
  refine callE_of (field_calls x 0 16 w) ?_
  rintro v w1 ⟨rfl, b1⟩
  simp -implicitDefEqProofs [go_sem]
  refine body_tmp 2 rfl ?_
  simp -implicitDefEqProofs [go_sem, WM.takenM]
  exact b1
theorem right_eq (x : BitVec 64) (hx : (x == 0#64) = false) : WM.rightM x = ((WM.fieldM x 0 (WM.blocksI (WM.kindM x)) != 0#64) && (WM.withM (WM.withM x 0 (WM.blocksI (WM.kindM x)) 0#64) 16 2 0#64 == 0#64)) := by
  unfold WM.rightM; rw [hx]; rfl
set_option linter.unusedSimpArgs false in
theorem right_calls (x : BitVec 64) (w0 : World) : Ret Tryz.prog 59 #[.int .u64 (uv x)] w0 fun v w' => v = .bool (WM.rightM x) ∧ Below w0.heap.size w0 w' := by
  have bel0 := Below.refl w0.heap.size w0
  have hW := fun n low size w => with_calls n low size 0#64 w
  rw [show uv 0#64 = 0 from rfl] at hW
  refine ret_of (args := [_]) _ Tryz.func59 rfl Tryz.ntmps59 (by simp) ?_
  cases hx : x == 0#64
  · have hr := right_eq x hx
    simp -implicitDefEqProofs [go_sem, hx]
    refine callE_of (kind_calls x w0) ?_
    rintro v w1 ⟨rfl, b1⟩
    have bel1 := bel0.trans (b1.mono bel0.size)
    simp -implicitDefEqProofs [go_sem]
    refine callE_of (blocks_calls _ w1) ?_
    rintro v w2 ⟨rfl, rfl⟩
    simp -implicitDefEqProofs [go_sem]
    refine callE_of (field_calls x 0 _ w2) ?_
    rintro v w3 ⟨rfl, b3⟩
    have bel3 := bel1.trans (b3.mono bel1.size)
    cases h1 : WM.fieldM x 0 (WM.blocksI (WM.kindM x)) != 0#64
    · simp -implicitDefEqProofs [go_sem, h1]
      refine body_tmp 2 rfl ?_
      simp -implicitDefEqProofs [go_sem, hr, h1]
      exact bel3
    · simp -implicitDefEqProofs [go_sem, h1]
      refine callE_of (hW x 0 _ w3) ?_
      rintro v w4 ⟨rfl, b4⟩
      have bel4 := bel3.trans (b4.mono bel3.size)
      simp -implicitDefEqProofs [go_sem]
      refine callE_of (hW _ 16 2 w4) ?_
      rintro v w5 ⟨rfl, b5⟩
      have bel5 := bel4.trans (b5.mono bel4.size)
      simp -implicitDefEqProofs [go_sem]
      refine body_tmp 2 rfl ?_
      simp -implicitDefEqProofs [go_sem, hr, h1]
      exact bel5
  · simp -implicitDefEqProofs [go_sem, hx]
    refine body_tmp 2 rfl ?_
    simp -implicitDefEqProofs [go_sem, WM.rightM, hx]
    exact bel0
set_option linter.unusedSimpArgs false in
theorem class_calls (x : BitVec 64) (w0 : World) : Ret Tryz.prog 48 #[.int .u64 (uv x)] w0 fun v w' => v = .int .i64 (WM.classM x) ∧ Below w0.heap.size w0 w' := by
  have bel0 := Below.refl w0.heap.size w0
  refine ret_of (args := [_]) _ Tryz.func48 rfl Tryz.ntmps48 (by simp) ?_
  simp -implicitDefEqProofs [go_sem]
  refine callE_of (right_calls x w0) ?_
  rintro v w1 ⟨rfl, b1⟩
  have bel1 := bel0.trans (b1.mono bel0.size)
  cases h1 : WM.rightM x
  · simp -implicitDefEqProofs [go_sem]
    refine body_tmp 2 rfl ?_
    simp -implicitDefEqProofs [go_sem, WM.classM, h1]
    exact bel1
  · simp -implicitDefEqProofs [go_sem]
    refine callE_of (kind_calls x w1) ?_
    rintro v w2 ⟨rfl, b2⟩
    have bel2 := bel1.trans (b2.mono bel1.size)
    simp -implicitDefEqProofs [go_sem]
    refine body_tmp 2 rfl ?_
    simp -implicitDefEqProofs [go_sem, WM.classM, h1]
    exact bel2
set_option linter.unusedSimpArgs false in
theorem has_calls' (x : BitVec 64) (p : Int) (w0 : World) : Ret Tryz.prog 47 #[.int .u64 (uv x), .int .i64 p] w0 fun v w' => v = .bool (WM.hasM x p) ∧ Below w0.heap.size w0 w' := by
  have bel0 := Below.refl w0.heap.size w0
  refine ret_of (args := [_, _]) _ Tryz.func47 rfl Tryz.ntmps47 (by simp) ?_
  by_cases h0 : 0 ≤ p
  · simp -implicitDefEqProofs [go_sem, h0]
    refine callE_of (class_calls x w0) ?_
    rintro v w1 ⟨rfl, b1⟩
    have bel1 := bel0.trans (b1.mono bel0.size)
    simp -implicitDefEqProofs [go_sem]
    refine callE_of (blocks_calls _ w1) ?_
    rintro v w2 ⟨rfl, rfl⟩
    by_cases h1 : p < WM.blocksI (WM.classM x)
    · simp -implicitDefEqProofs [go_sem, h1]
      refine callE_of (field_calls x p 1 w2) ?_
      rintro v w3 ⟨rfl, b3⟩
      simp -implicitDefEqProofs [go_sem]
      refine body_tmp 4 rfl ?_
      simp -implicitDefEqProofs [go_sem, WM.hasM, h0, h1]
      exact bel1.trans (b3.mono bel1.size)
    · simp -implicitDefEqProofs [go_sem, h1]
      refine body_tmp 4 rfl ?_
      simp -implicitDefEqProofs [go_sem, WM.hasM, h0, h1]
      exact bel1
  · simp -implicitDefEqProofs [go_sem, h0]
    refine body_tmp 4 rfl ?_
    simp -implicitDefEqProofs [go_sem, WM.hasM, h0]
    exact bel0
set_option linter.unusedSimpArgs false in
theorem meets_calls (x : BitVec 64) (c : Int) (w0 : World) : Ret Tryz.prog 67 #[.int .u64 (uv x), .int .i64 c] w0 fun v w' => v = .bool (WM.meetsM x c) ∧ Below w0.heap.size w0 w' := by
  have bel0 := Below.refl w0.heap.size w0
  refine ret_of (args := [_, _]) _ Tryz.func67 rfl Tryz.ntmps67 (by simp) ?_
  simp -implicitDefEqProofs [go_sem]
  refine callE_of (right_calls x w0) ?_
  rintro v w1 ⟨rfl, b1⟩
  have bel1 := bel0.trans (b1.mono bel0.size)
  cases h1 : WM.rightM x
  · simp -implicitDefEqProofs [go_sem]
    refine body_tmp 4 rfl ?_
    simp -implicitDefEqProofs [go_sem, WM.meetsM, h1]
    exact bel1
  · simp -implicitDefEqProofs [go_sem]
    refine callE_of (blocks_calls _ w1) ?_
    rintro v w2 ⟨rfl, rfl⟩
    by_cases h2 : 0 < WM.blocksI c
    · cases h3 : x == 0#64
      · simp -implicitDefEqProofs [go_sem, h2, h3]
        refine callE_of (kind_calls x w2) ?_
        rintro v w3 ⟨rfl, b3⟩
        simp -implicitDefEqProofs [go_sem]
        refine body_tmp 4 rfl ?_
        simp -implicitDefEqProofs [go_sem, WM.meetsM, h1, h2, h3]
        exact bel1.trans (b3.mono bel1.size)
      · simp -implicitDefEqProofs [go_sem, h2, h3]
        refine body_tmp 4 rfl ?_
        simp -implicitDefEqProofs [go_sem, WM.meetsM, h1, h2, h3]
        exact bel1
    · simp -implicitDefEqProofs [go_sem, h2]
      refine body_tmp 4 rfl ?_
      simp -implicitDefEqProofs [go_sem, WM.meetsM, h1, h2]
      exact bel1
set_option linter.unusedSimpArgs false in
theorem slabNext_calls (x : BitVec 64) (c : Int) (w0 : World) (hT : Tabs w0) : Ret Tryz.prog 33 #[.int .u64 (uv x), .int .i64 c] w0 fun v w' => v = .int .i64 (WM.nextM x c) ∧ Below w0.heap.size w0 w' := by
  have bel0 := Below.refl w0.heap.size w0
  refine ret_of (args := [_, _]) _ Tryz.func33 rfl Tryz.ntmps33 (by simp) ?_
  simp -implicitDefEqProofs [go_sem]
  refine callE_of (meets_calls x c w0) ?_
  rintro v w1 ⟨rfl, b1⟩
  have bel1 := bel0.trans (b1.mono bel0.size)
  replace hT := hT.next b1
  cases h1 : WM.meetsM x c
  · simp -implicitDefEqProofs [go_sem]
    refine body_tmp 4 rfl ?_
    simp -implicitDefEqProofs [go_sem, WM.nextM, h1]
    exact bel1
  · simp -implicitDefEqProofs [go_sem]
    refine callE_of (taken_calls x w1) ?_
    rintro v w2 ⟨rfl, b2⟩
    have bel2 := bel1.trans (b2.mono bel1.size)
    replace hT := hT.next b2
    simp -implicitDefEqProofs [go_sem]
    refine callE_of (blocks_calls _ w2) ?_
    rintro v w3 ⟨rfl, rfl⟩
    simp -implicitDefEqProofs [go_sem]
    refine callE_of (low_calls _ _ w3 hT) ?_
    rintro v w4 ⟨rfl, b4⟩
    simp -implicitDefEqProofs [go_sem]
    refine body_tmp 4 rfl ?_
    simp -implicitDefEqProofs [go_sem, WM.nextM, h1]
    exact bel2.trans (b4.mono bel2.size)
set_option linter.unusedSimpArgs false in
theorem take_calls (x : BitVec 64) (c p : Int) (w0 : World) : Ret Tryz.prog 35 #[.int .u64 (uv x), .int .i64 c, .int .i64 p] w0 fun v w' => v = .tuple #[.int .u64 (uv (WM.takeW x c p)), .bool (WM.takeOk x c p)] ∧ Below w0.heap.size w0 w' := by
  have bel0 := Below.refl w0.heap.size w0
  have hW := fun n low size w => with_calls n low size 1#64 w
  rw [show uv 1#64 = 1 from rfl] at hW
  refine ret_of (args := [_, _, _]) _ Tryz.func35 rfl Tryz.ntmps35 (by simp) ?_
  simp -implicitDefEqProofs [go_sem]
  refine callE_of (meets_calls x c w0) ?_
  rintro v w1 ⟨rfl, b1⟩
  have bel1 := bel0.trans (b1.mono bel0.size)
  cases h1 : WM.meetsM x c
  · simp -implicitDefEqProofs [go_sem]
    refine body_tmp2 6 7 rfl ?_
    simp -implicitDefEqProofs [go_sem, WM.takeW, WM.takeOk, h1]
    exact bel1
  by_cases h2 : p < 0
  · have h2' : ¬ 0 ≤ p := by omega
    simp -implicitDefEqProofs [go_sem, h2]
    refine body_tmp2 6 7 rfl ?_
    simp -implicitDefEqProofs [go_sem, WM.takeW, WM.takeOk, h1, h2']
    exact bel1
  have h2' : 0 ≤ p := by omega
  simp -implicitDefEqProofs [go_sem, h2]
  refine callE_of (blocks_calls _ w1) ?_
  rintro v w2 ⟨rfl, rfl⟩
  by_cases h3 : WM.blocksI c ≤ p
  · have h3' : ¬ p < WM.blocksI c := by omega
    simp -implicitDefEqProofs [go_sem, h3]
    refine body_tmp2 6 7 rfl ?_
    simp -implicitDefEqProofs [go_sem, WM.takeW, WM.takeOk, h1, h2', h3']
    exact bel1
  have h3' : p < WM.blocksI c := by omega
  simp -implicitDefEqProofs [go_sem, h3]
  refine callE_of (has_calls' x p w2) ?_
  rintro v w3 ⟨rfl, b3⟩
  have bel3 := bel1.trans (b3.mono bel1.size)
  cases h4 : WM.hasM x p
  · simp -implicitDefEqProofs [go_sem]
    refine callE_of (hW x p 1 w3) ?_
    rintro v w4 ⟨rfl, b4⟩
    have bel4 := bel3.trans (b4.mono bel3.size)
    simp -implicitDefEqProofs [go_sem]
    refine callE_of (with_calls _ 16 2 _ w4) ?_
    rintro v w5 ⟨rfl, b5⟩
    have bel5 := bel4.trans (b5.mono bel4.size)
    simp -implicitDefEqProofs [go_sem]
    refine body_tmp2 6 7 rfl ?_
    simp -implicitDefEqProofs [go_sem, WM.takeW, WM.takeOk, h1, h2', h3', h4]
    exact bel5
  · simp -implicitDefEqProofs [go_sem]
    refine body_tmp2 6 7 rfl ?_
    simp -implicitDefEqProofs [go_sem, WM.takeW, WM.takeOk, h1, h2', h3', h4]
    exact bel3
set_option linter.unusedSimpArgs false in
theorem drop_calls (x : BitVec 64) (p : Int) (w0 : World) : Ret Tryz.prog 43 #[.int .u64 (uv x), .int .i64 p] w0 fun v w' => v = .tuple #[.int .u64 (uv (WM.dropW x p)), .bool (WM.hasM x p)] ∧ Below w0.heap.size w0 w' := by
  have bel0 := Below.refl w0.heap.size w0
  have hW := fun n low size w => with_calls n low size 0#64 w
  rw [show uv 0#64 = 0 from rfl] at hW
  refine ret_of (args := [_, _]) _ Tryz.func43 rfl Tryz.ntmps43 (by simp) ?_
  simp -implicitDefEqProofs [go_sem]
  refine callE_of (has_calls' x p w0) ?_
  rintro v w1 ⟨rfl, b1⟩
  have bel1 := bel0.trans (b1.mono bel0.size)
  cases h1 : WM.hasM x p
  · simp -implicitDefEqProofs [go_sem]
    refine body_tmp2 4 5 rfl ?_
    simp -implicitDefEqProofs [go_sem, WM.dropW, h1]
    exact bel1
  · simp -implicitDefEqProofs [go_sem]
    refine callE_of (hW x p 1 w1) ?_
    rintro v w2 ⟨rfl, b2⟩
    have bel2 := bel1.trans (b2.mono bel1.size)
    rw [show WM.withM x p 1 0#64 = WM.lessM x p from rfl]
    simp -implicitDefEqProofs [go_sem]
    refine callE_of (taken_calls _ w2) ?_
    rintro v w3 ⟨rfl, b3⟩
    have bel3 := bel2.trans (b3.mono bel2.size)
    cases h2 : WM.takenM (WM.lessM x p) == 0#64
    · simp -implicitDefEqProofs [go_sem, h2]
      refine body_tmp2 4 5 rfl ?_
      simp -implicitDefEqProofs [go_sem, WM.dropW, h1, h2]
      exact bel3
    · simp -implicitDefEqProofs [go_sem, h2]
      refine body_tmp2 4 5 rfl ?_
      have h2' : WM.takenM (WM.lessM x p) = 0#64 := by simpa using h2
      simp -implicitDefEqProofs [go_sem, WM.dropW, h1, h2', show uv 0#64 = 0 from rfl]
      exact bel3
end Go.Proofs.YtcpackbljaabnaaGreatDoor

/-! ### SlabRef -/
namespace Go.Proofs.YtcpackbljaabnaaGreatDoor
set_option linter.unusedVariables false
set_option linter.unusedSimpArgs false
set_option maxRecDepth 100000
open Go Go.RowKit

/-- A slab, as cells. -/
def slabC (c : Int) (T : Nat → Bool) : Array Value := (Value.int .i64 c :: (List.range 16).map (fun i => Value.bool (T i))).toArray
theorem slabC_size (c : Int) (T : Nat → Bool) : (slabC c T).size = 17 := by simp [slabC]
theorem slabC_0 (c : Int) (T : Nat → Bool) : (slabC c T)[0]? = some (.int .i64 c) := by simp [slabC]
theorem slabC_at (c : Int) (T : Nat → Bool) (i : Nat) (hi : i < 16) : (slabC c T)[1 + i]? = some (.bool (T i)) := by
  rw [Nat.add_comm]; simp [slabC, hi]
theorem slabC_set0 (c d : Int) (T : Nat → Bool) : (slabC c T).setIfInBounds 0 (.int .i64 d) = slabC d T := by simp [slabC]
theorem slabC_setT (c : Int) (T : Nat → Bool) (i : Nat) (hi : i < 16) (b : Bool) : (slabC c T).setIfInBounds (1 + i) (.bool b) = slabC c (WM.setT T i b) := by
  apply Array.ext_getElem?
  intro j
  rw [Array.getElem?_setIfInBounds, slabC_size]
  by_cases h0 : j = 0
  · subst h0; rw [if_neg (by omega), slabC_0, slabC_0]
  · obtain ⟨k, rfl⟩ : ∃ k, j = 1 + k := ⟨j - 1, by omega⟩
    by_cases hk : k < 16
    · rw [slabC_at _ _ _ hk, slabC_at _ _ _ hk]
      by_cases h : i = k
      · subst h; rw [if_pos rfl, if_pos (by omega)]; simp [WM.setT]
      · have h' : ¬ k = i := fun e => h e.symm
        rw [if_neg (by omega)]; simp [WM.setT, h']
    · rw [if_neg (by omega), Array.getElem?_eq_none (by rw [slabC_size]; omega), Array.getElem?_eq_none (by rw [slabC_size]; omega)]
theorem slabC_congr {c : Int} {T U : Nat → Bool} (h : ∀ i, i < 16 → T i = U i) : slabC c T = slabC c U := by
  unfold slabC
  rw [List.map_congr_left (fun i hi => by rw [h i (List.mem_range.1 hi)])]
def noT : Nat → Bool := fun _ => false
theorem slabC_zero : slabC 0 noT = #[.int .i64 0, .bool false, .bool false, .bool false, .bool false, .bool false, .bool false, .bool false, .bool false, .bool false, .bool false, .bool false, .bool false, .bool false, .bool false, .bool false, .bool false] := rfl
theorem slabC_one (c : Int) (T : Nat → Bool) : ∀ v ∈ (slabC c T).toList, v.oneCell' = true := by
  intro v hv
  simp [slabC] at hv
  rcases hv with rfl | ⟨i, _, rfl⟩ <;> rfl
theorem slabT : Tryz.prog.underlying 93 = some (.struct #[]) ∨ True := .inr trivial
theorem slabI : (Tryz.prog.info? 93).map (·.size) = some 17 := by kernel_rfl
theorem slabI' (c : Int) (T : Nat → Bool) : (Tryz.prog.info? 93).map (·.size) = some (slabC c T).size := by rw [slabC_size]; exact slabI

set_option linter.unusedSimpArgs false in
theorem refBlocks_calls (c : Int) (w : World) : Ret Tryz.prog 37 #[.int .i64 c] w fun v w' => v = .int .i64 (WM.blocksI c) ∧ w' = w := by
  refine ret_of (args := [_]) _ Tryz.func37 rfl Tryz.ntmps37 (by simp) ?_
  by_cases h1 : c = 1
  · subst h1
    simp -implicitDefEqProofs [go_sem]
    refine body_tmp 2 rfl ?_
    simp -implicitDefEqProofs [go_sem, WM.blocksI]
  · have h1' : (c == 1) = false := by rw [beq_eq_false_iff_ne]; exact h1
    by_cases h2 : c = 2
    · subst h2
      simp -implicitDefEqProofs [go_sem]
      refine body_tmp 2 rfl ?_
      simp -implicitDefEqProofs [go_sem, WM.blocksI]
    · have h2' : (c == 2) = false := by rw [beq_eq_false_iff_ne]; exact h2
      simp -implicitDefEqProofs [go_sem, h1', h2']
      refine body_tmp 2 rfl ?_
      simp -implicitDefEqProofs [go_sem, WM.blocksI, h1, h2]
def linesI (c : Int) : Int := if c = 1 then 1 else if c = 2 then 4 else 0
set_option linter.unusedSimpArgs false in
theorem lines_calls (c : Int) (w : World) : Ret Tryz.prog 71 #[.int .i64 c] w fun v w' => v = .int .i64 (linesI c) ∧ w' = w := by
  refine ret_of (args := [_]) _ Tryz.func71 rfl Tryz.ntmps71 (by simp) ?_
  by_cases h1 : c = 1
  · subst h1
    simp -implicitDefEqProofs [go_sem]
    refine body_tmp 2 rfl ?_
    simp -implicitDefEqProofs [go_sem, linesI]
  · have h1' : (c == 1) = false := by rw [beq_eq_false_iff_ne]; exact h1
    by_cases h2 : c = 2
    · subst h2
      simp -implicitDefEqProofs [go_sem]
      refine body_tmp 2 rfl ?_
      simp -implicitDefEqProofs [go_sem, linesI]
    · have h2' : (c == 2) = false := by rw [beq_eq_false_iff_ne]; exact h2
      simp -implicitDefEqProofs [go_sem, h1', h2']
      refine body_tmp 2 rfl ?_
      simp -implicitDefEqProofs [go_sem, linesI, h1, h2]
set_option linter.unusedSimpArgs false in
theorem refLines_calls (c : Int) (w : World) : Ret Tryz.prog 73 #[.int .i64 c] w fun v w' => v = .int .i64 (linesI c) ∧ w' = w := by
  refine ret_of (args := [_]) _ Tryz.func73 rfl Tryz.ntmps73 (by simp) ?_
  by_cases h1 : c = 1
  · subst h1
    simp -implicitDefEqProofs [go_sem]
    refine body_tmp 2 rfl ?_
    simp -implicitDefEqProofs [go_sem, linesI]
  · have h1' : (c == 1) = false := by rw [beq_eq_false_iff_ne]; exact h1
    by_cases h2 : c = 2
    · subst h2
      simp -implicitDefEqProofs [go_sem]
      refine body_tmp 2 rfl ?_
      simp -implicitDefEqProofs [go_sem, linesI]
    · have h2' : (c == 2) = false := by rw [beq_eq_false_iff_ne]; exact h2
      simp -implicitDefEqProofs [go_sem, h1', h2']
      refine body_tmp 2 rfl ?_
      simp -implicitDefEqProofs [go_sem, linesI, h1, h2]

set_option linter.unusedSimpArgs false in
theorem count_calls (c : Int) (T : Nat → Bool) (w0 : World) : Ret Tryz.prog 75 #[.agg (slabC c T)] w0 fun v w' => v = .int .i64 (WM.cnt T 16) ∧ Below w0.heap.size w0 w' := by
  have bel0 := Below.refl w0.heap.size w0
  refine ret_of (args := [_]) _ Tryz.func75 rfl Tryz.ntmps75 (by simp) ?_
  simp -implicitDefEqProofs [go_sem]
  generalize hw1 : World.alloc w0 _ = w1 at *
  obtain ⟨hB1, b1, sz1⟩ := new_facts hw1
  have bel1 := bel0.trans (b1.mono bel0.size)
  refine wpE_loop (fun e' w' => w' = w1 ∧ ∃ k : Nat, k ≤ 16 ∧ e' 1 = .pointer (some ⟨w0.heap.size, 0, none⟩) ∧ e' 3 = .int .i64 (WM.cnt T k) ∧ e' 4 = .int .i64 k) (fun e' _ => 16 - (intOf (e' 4)).toNat) ?_ ?_
  · refine ⟨rfl, 0, by omega, ?_⟩
    simp -implicitDefEqProofs [go_sem, WM.cnt]
  · rintro e' w' ⟨rfl, k, hk, h1, h3, h4⟩
    by_cases hlt : k < 16
    · have hw := IntWalk.i64_in ((k : Int) + 1) (by omega)
      have hlt' : (k : Int) < 16 := by omega
      have hcl := WM.cnt_le T k
      have hw2 := IntWalk.i64_in ((WM.cnt T k : Int) + 1) (by omega)
      have g := hB1.cell (1 + k)
      rw [slabC_at _ _ _ hlt] at g
      cases hT : T k
      · rw [hT] at g
        simp -implicitDefEqProofs [go_sem, h1, h3, h4, hlt', hlt, g, hw]
        refine goE_round ⟨rfl, k + 1, by omega, ?_⟩ ?_
        · simp -implicitDefEqProofs [go_sem, h1, h3, WM.cnt, hT]
        · simp -implicitDefEqProofs [go_sem, intOf, h4, hw]; omega
      · rw [hT] at g
        simp -implicitDefEqProofs [go_sem, h1, h3, h4, hlt', hlt, g, hw, hw2]
        refine goE_round ⟨rfl, k + 1, by omega, ?_⟩ ?_
        · simp -implicitDefEqProofs [go_sem, h1, h3, WM.cnt, hT]
        · simp -implicitDefEqProofs [go_sem, intOf, h4, hw]; omega
    · have hk' : k = 16 := by omega
      subst hk'
      simp -implicitDefEqProofs [go_sem, h1, h3, h4]
      refine body_tmp 2 rfl ?_
      simp -implicitDefEqProofs [go_sem]
      exact bel1
set_option linter.unusedSimpArgs false in
theorem word_calls (c : Nat) (T : Nat → Bool) (w0 : World) (hc : c < 4) : Ret Tryz.prog 72 #[.agg (slabC c T)] w0 fun v w' => v = .int .u64 (uv (WM.wordR c T)) ∧ Below w0.heap.size w0 w' := by
  have bel0 := Below.refl w0.heap.size w0
  refine ret_of (args := [_]) _ Tryz.func72 rfl Tryz.ntmps72 (by simp) ?_
  have hcv : BitVec.ofInt 64 (c : Int) = BitVec.ofNat 64 c := by rw [BitVec.ofInt_natCast]
  have hu1 : uv (BitVec.twoPow 64 0) = 1 := rfl
  simp -implicitDefEqProofs [go_sem, slabC_0, hcv]
  generalize hw1 : World.alloc w0 _ = w1 at *
  obtain ⟨hB1, b1, sz1⟩ := new_facts hw1
  have bel1 := bel0.trans (b1.mono bel0.size)
  refine wpE_loop (fun e' w' => w' = w1 ∧ ∃ k : Nat, k ≤ 16 ∧ e' 1 = .pointer (some ⟨w0.heap.size, 0, none⟩) ∧ e' 3 = .int .u64 (uv (WM.wordK c T k)) ∧ e' 4 = .int .u64 (uv (BitVec.twoPow 64 k)) ∧ e' 5 = .int .i64 k) (fun e' _ => 16 - (intOf (e' 5)).toNat) ?_ ?_
  · refine ⟨rfl, 0, by omega, ?_⟩
    simp -implicitDefEqProofs [go_sem, WM.wordK, hu1]
  · rintro e' w' ⟨rfl, k, hk, h1, h3, h4, h5⟩
    by_cases hlt : k < 16
    · have hw := IntWalk.i64_in ((k : Int) + 1) (by omega)
      have hlt' : (k : Int) < 16 := by omega
      have g := hB1.cell (1 + k)
      rw [slabC_at _ _ _ hlt] at g
      cases hT : T k
      all_goals
        rw [hT] at g
        simp -implicitDefEqProofs [go_sem, h1, h3, h4, h5, hlt', hlt, g, hw]
        refine goE_round ⟨rfl, k + 1, by omega, ?_⟩ ?_
        · simp -implicitDefEqProofs [go_sem, h1, h3, h4, WM.wordK, hT, WM.two_mul]
        · simp -implicitDefEqProofs [go_sem, intOf, h5, hw]; omega
    · have hk' : k = 16 := by omega
      subst hk'
      simp -implicitDefEqProofs [go_sem, h1, h3, h4, h5]
      refine body_tmp 2 rfl ?_
      simp -implicitDefEqProofs [go_sem, WM.wordR]
      exact bel1

theorem noT_eq (x : BitVec 64) (h : WM.rB x = false) : slabC 0 noT = slabC 0 (WM.tR x) := by
  congr 1; funext i; simp [noT, WM.tR, h]
/-- The first k bits. -/
def upT (x : BitVec 64) (k i : Nat) : Bool := decide (i < k) && x.getLsbD i
theorem upT_zero (x : BitVec 64) : upT x 0 = noT := by funext i; simp [upT, noT]
theorem upT_set (x : BitVec 64) (k : Nat) : WM.setT (upT x k) k (x.getLsbD k) = upT x (k + 1) := by
  funext i
  unfold WM.setT upT
  by_cases h : i = k
  · subst h; simp
  · have : decide (i < k + 1) = decide (i < k) := decide_eq_decide.2 (by omega)
    rw [if_neg h, this]

set_option maxHeartbeats 1000000 in
set_option linter.unusedSimpArgs false in
theorem of_calls (x : BitVec 64) (w0 : World) : Ret Tryz.prog 49 #[.int .u64 (uv x)] w0 fun v w' => v = .tuple #[.agg (slabC (WM.cR x) (WM.tR x)), .bool (WM.rB x)] ∧ Below w0.heap.size w0 w' := by
  have bel0 := Below.refl w0.heap.size w0
  refine ret_of (args := [_]) _ Tryz.func49 rfl Tryz.ntmps49 (by simp) ?_
  simp -implicitDefEqProofs [go_sem]
  generalize hw1 : World.alloc w0 _ = w1 at *
  obtain ⟨hB1, b1, sz1⟩ := new_facts hw1
  have bel1 := bel0.trans (b1.mono bel0.size)
  rw [← sz1]
  generalize hw2 : World.alloc w1 _ = w2 at *
  obtain ⟨hB2, b2, sz2⟩ := new_facts hw2
  have bel2 := bel1.trans (b2.mono bel1.size)
  replace hB1 := hB1.next b2
  rw [← slabC_zero] at hB1 hB2
  have hst := Tryz.underlying93
  by_cases hbig : 196608#64 ≤ x
  · have hb : WM.rB x = false := by
      cases hb : WM.rB x
      · rfl
      · have := ((WM.rB_iff x).1 hb).1
        rw [BitVec.le_def] at hbig; simp at hbig; omega
    simp -implicitDefEqProofs [go_sem, hbig, ↓ldAll hB2 hst rfl slabI (slabC_size _ _), ↓stAll hB1 (slabI' 0 noT) rfl (slabC_one _ _)]
    refine bodyCell 2 3 rfl (by simp -implicitDefEqProofs [go_sem]) (hB1.row (slabC 0 noT)) hst rfl (slabI' _ _) ?_
    simp -implicitDefEqProofs [go_sem, WM.cR, hb, noT_eq x hb]
    exact Below.row bel2 (by omega) _
  · have hx : x.toNat < 196608 := by rw [BitVec.le_def] at hbig; simp at hbig; omega
    have hk3 : WM.kR x < 3 := by unfold WM.kR; omega
    have hcv : IntKind.i64.wrap (uv (x / 65536#64)) = (WM.kR x : Int) := by
      have : uv (x / 65536#64) = (WM.kR x : Int) := by unfold uv WM.kR; rw [BitVec.toNat_udiv]; rfl
      rw [this, IntWalk.i64_in _ (by omega)]
    have hB3 := hB2.set 0 (.int .i64 (WM.kR x : Int))
    rw [slabC_set0] at hB3
    have hB13 := hB1.setOther (a := ⟨w1.heap.size, 0, none⟩) (by show w1.heap.size ≠ w0.heap.size; omega) (.int .i64 (WM.kR x : Int))
    have bel3 : Below w0.heap.size w0 (w2.setCell ⟨w1.heap.size, 0, none⟩ (.int .i64 (WM.kR x : Int))) := bel2.setCell (by show w0.heap.size ≤ w1.heap.size; omega) _
    have hn0 := WM.nK_zero x
    simp -implicitDefEqProofs [go_sem, hbig, hcv, hB2.cell, slabC_0, hB2.thaw, hn0]
    generalize World.setCell w2 _ _ = w3 at *
    have hlt12 : w0.heap.size ≠ w1.heap.size := by omega
    refine wpE_loop (fun e' w' => ∃ k : Nat, k ≤ 16 ∧ e' 2 = .pointer (some ⟨w0.heap.size, 0, none⟩) ∧ e' 4 = .pointer (some ⟨w1.heap.size, 0, none⟩) ∧ e' 5 = .int .u64 (uv (WM.nK x k)) ∧ e' 6 = .int .i64 k ∧
      Blk w' w0.heap.size (slabC 0 noT) 93 ∧ Blk w' w1.heap.size (slabC (WM.kR x) (upT x k)) 93 ∧ (∀ i, i < k → x.getLsbD i = true → i < WM.bl (WM.kR x)) ∧ Below w0.heap.size w0 w') (fun e' _ => 16 - (intOf (e' 6)).toNat) ?_ ?_
    · refine ⟨0, by omega, ?_⟩
      simp -implicitDefEqProofs [go_sem]
      exact ⟨hB13, by rw [upT_zero]; exact hB3, bel3⟩
    · rintro e' w' ⟨k, hk, h2, h4, h5, h6, hR, hS, hal, bel⟩
      by_cases hlt : k < 16
      · have hw := IntWalk.i64_in ((k : Int) + 1) (by omega)
        have hlt' : (k : Int) < 16 := by omega
        have g := hS.cell (1 + k)
        rw [slabC_at _ _ _ hlt] at g
        have hset := hS.set (1 + k) (.bool (x.getLsbD k))
        rw [slabC_setT _ _ _ hlt, upT_set] at hset
        have hR2 := hR.setOther (a := ⟨w1.heap.size, 1 + k, none⟩) (by show w1.heap.size ≠ w0.heap.size; omega) (.bool (x.getLsbD k))
        have bel' : Below w0.heap.size w0 (w'.setCell ⟨w1.heap.size, 1 + k, none⟩ (.bool (x.getLsbD k))) := bel.setCell (by show w0.heap.size ≤ w1.heap.size; omega) _
        have f := hS.thaw (1 + k)
        have hbit := WM.nK_bit x k hlt
        have hnk := WM.nK_succ x k
        simp -implicitDefEqProofs [go_sem, h2, h4, h5, h6, hlt', hlt, g, f, hbit, hnk]
        generalize World.setCell w' _ _ = w4 at *
        have c0 := hset.cell 0
        rw [slabC_0] at c0
        have c1 := hset.cell (1 + k)
        rw [slabC_at _ _ _ hlt] at c1
        have hup : upT x (k + 1) k = x.getLsbD k := by simp [upT]
        rw [hup] at c1
        cases hbk : x.getLsbD k
        · rw [hbk] at c1
          simp -implicitDefEqProofs [go_sem, h2, h4, h5, h6, hlt', hlt, c1, hw]
          refine goE_round ⟨k + 1, by omega, ?_⟩ ?_
          · simp -implicitDefEqProofs [go_sem, h2, h4]
            refine ⟨hR2, hset, fun i hi hb => ?_, bel'⟩
            by_cases e : i = k
            · subst e; rw [hbk] at hb; cases hb
            · exact hal i (by omega) hb
          · simp -implicitDefEqProofs [go_sem, intOf, h6, hw]; omega
        · rw [hbk] at c1
          simp -implicitDefEqProofs [go_sem, h2, h4, h5, h6, hlt', hlt, c0, c1]
          refine callE_of (refBlocks_calls (WM.kR x) w4) ?_
          rintro v w5 ⟨rfl, rfl⟩
          rw [WM.blocksI_nat]
          by_cases hge : WM.bl (WM.kR x) ≤ k
          · have hge' : (WM.bl (WM.kR x) : Int) ≤ k := by omega
            have hb : WM.rB x = false := by
              cases hb : WM.rB x
              · rfl
              · have := ((WM.rB_iff x).1 hb).2.1 k hlt hbk; omega
            have hst0 := stAll (P := Tryz.prog) hR2 (slabI' 0 noT) rfl (slabC_one _ _)
            have hR5 := hR2.row (slabC 0 noT)
            rw [slabC_zero] at hst0 hR5
            simp -implicitDefEqProofs [go_sem, h2, h4, h5, h6, hge, hge', ↓hst0]
            refine bodyCell 2 3 rfl (by simp -implicitDefEqProofs [go_sem, h2]) hR5 hst rfl slabI ?_
            rw [← slabC_zero]
            simp -implicitDefEqProofs [go_sem, WM.cR, hb, noT_eq x hb]
            exact Below.row bel' (by omega) _
          · have hge' : ¬ (WM.bl (WM.kR x) : Int) ≤ k := by omega
            simp -implicitDefEqProofs [go_sem, h2, h4, h5, h6, hge, hge', hw]
            refine goE_round ⟨k + 1, by omega, ?_⟩ ?_
            · simp -implicitDefEqProofs [go_sem, h2, h4]
              refine ⟨hR2, hset, fun i hi hb => ?_, bel'⟩
              by_cases e : i = k
              · subst e; omega
              · exact hal i (by omega) hb
            · simp -implicitDefEqProofs [go_sem, intOf, h6, hw]; omega
      · have hk' : k = 16 := by omega
        subst hk'
        have hU : slabC (WM.kR x) (upT x 16) = slabC (WM.kR x) (WM.bitsOf x) := slabC_congr fun i hi => by simp [upT, WM.bitsOf, hi]
        rw [hU] at hS
        have hcnt := WM.cnt_zero (WM.bitsOf x) 16
        have hrb := WM.rB_iff x
        simp -implicitDefEqProofs [go_sem, h2, h4, h5, h6]
        obtain ⟨S, hS'⟩ : ∃ S : World → Prop, S = fun w'' => Below w'.heap.size w' w'' := ⟨_, rfl⟩
        refine drawE_quiet S mixed (by decide +kernel) (by subst_vars; first | exact (Below.refl _ _).drew | assumption) (fun hsome => ?_)
        have hb : ∀ w'', S w'' → Below w'.heap.size w' w'' := fun w'' h => by rw [hS'] at h; exact h
        have hto : ∀ w', S w' → ∀ w'', Below w'.heap.size w' w'' → S w'' := fun w' h w'' h2 => by rw [hS'] at h ⊢; exact h.trans (h2.mono h.size)
        have kl := fun w'' h => ldAll (P := Tryz.prog) (hS.next (hb w'' h)) hst rfl slabI (slabC_size _ _)
        have kc := fun w'' h => (hS.next (hb w'' h)).cell 0
        simp only [slabC_0] at kc
        simp -implicitDefEqProofs +contextual [go_sem, hsome, h2, h4, ↓kl]
        refine onQuiet_call _ (fun w' hw => (count_calls (WM.kR x) (WM.bitsOf x) w').mono fun v w'' h => ⟨h.1, hto _ hw _ h.2⟩) ?_
        simp -implicitDefEqProofs +contextual [go_sem, hsome, h2, h4, kc]
        unfold endE
        intro w6 h6'
        have hR6 := hR.next (hb _ h6')
        have hS6 := hS.next (hb _ h6')
        have bel6 := bel.trans ((hb _ h6').mono bel.size)
        by_cases hrB : WM.rB x = true
        · have hq := (hrb.1 hrB).2.2
          have e1 : (((WM.cnt (WM.bitsOf x) 16 : Nat) : Int) == 0) = decide (WM.kR x = 0) := by
            rw [Bool.eq_iff_iff, beq_iff_eq, decide_eq_true_iff]
            exact ⟨fun h => hq.1 (hcnt.1 (by omega)), fun h => by have := hcnt.2 (hq.2 h); omega⟩
          have e2 : ((WM.kR x : Int) == 0) = decide (WM.kR x = 0) := by
            rw [Bool.eq_iff_iff, beq_iff_eq, decide_eq_true_iff]; omega
          have hT : slabC (WM.kR x) (WM.bitsOf x) = slabC (WM.kR x) (WM.tR x) := slabC_congr fun i hi => by simp [WM.tR, WM.bitsOf, hrB]
          simp -implicitDefEqProofs [go_sem, h2, h4, e1, e2, ↓ldAll hS6 hst rfl slabI (slabC_size _ _), ↓stAll hR6 (slabI' (WM.kR x) (WM.bitsOf x)) (by rw [slabC_size, slabC_size]) (slabC_one _ _)]
          refine bodyCell 2 3 rfl (by simp -implicitDefEqProofs [go_sem, h2]) (hR6.row (slabC (WM.kR x) (WM.bitsOf x))) hst rfl (slabI' _ _) ?_
          simp -implicitDefEqProofs [go_sem, WM.cR, hrB, hT]
          exact Below.row bel6 (by omega) _
        · have hrB' : WM.rB x = false := by simpa using hrB
          have e2 : ((WM.kR x : Int) == 0) = decide (WM.kR x = 0) := by
            rw [Bool.eq_iff_iff, beq_iff_eq, decide_eq_true_iff]; omega
          have e1 : (((WM.cnt (WM.bitsOf x) 16 : Nat) : Int) == 0) = !decide (WM.kR x = 0) := by
            by_cases hk0 : WM.kR x = 0
            · rw [decide_eq_true hk0, Bool.not_true, beq_eq_false_iff_ne]
              intro h
              exact hrB (hrb.2 ⟨hx, hal, fun _ => hk0, fun _ => hcnt.1 (by omega)⟩)
            · rw [decide_eq_false hk0, Bool.not_false, beq_iff_eq]
              apply Classical.byContradiction
              intro h
              exact hrB (hrb.2 ⟨hx, hal, fun h2 => by have := hcnt.2 h2; omega, fun h2 => absurd h2 hk0⟩)
          have hst0 := stAll (P := Tryz.prog) hR6 (slabI' 0 noT) rfl (slabC_one _ _)
          have hR7 := hR6.row (slabC 0 noT)
          rw [slabC_zero] at hst0 hR7
          simp -implicitDefEqProofs [go_sem, h2, h4, e1, e2, ↓hst0]
          refine bodyCell 2 3 rfl (by simp -implicitDefEqProofs [go_sem, h2]) hR7 hst rfl slabI ?_
          rw [← slabC_zero]
          simp -implicitDefEqProofs [go_sem, WM.cR, hrB', noT_eq x hrB']
          exact Below.row bel6 (by omega) _
end Go.Proofs.YtcpackbljaabnaaGreatDoor

/-! ### SlabRef2 -/
namespace Go.Proofs.YtcpackbljaabnaaGreatDoor
set_option linter.unusedVariables false
set_option linter.unusedSimpArgs false
set_option maxRecDepth 100000
open Go Go.RowKit

theorem info_int : (Tryz.prog.info? 3).map (fun i => (i.zero, i.size, i.bytes)) = some (some (.int .i64 0), 1, 8) := by kernel_rfl
/-- The first k of what is filtered, and one more. -/
def lstK (f : Nat → Bool) (k : Nat) : List Nat := (List.range k).filter f
theorem lstK_zero (f : Nat → Bool) : lstK f 0 = [] := rfl
theorem filter_succ (f : Nat → Bool) (k : Nat) : lstK f (k + 1) = lstK f k ++ (if f k then [k] else []) := by
  unfold lstK; rw [List.range_succ, List.filter_append]; cases h : f k <;> simp [h]
theorem filter_len (f : Nat → Bool) (k : Nat) : (lstK f k).length ≤ k := by
  have := List.length_filter_le f (List.range k); simpa [lstK] using this

theorem stSlab (c : Int) (T : Nat → Bool) : ∀ (w : World) (e : Env) (dst : Option Tmp) (x y : Operand) (ty' : TypeId) (pos : String) (af : Array Edge) (gd : Option (Nat × Bool)), ev e x = .pointer (some ⟨w.heap.size, 0, none⟩) → ev e y = .agg (slabC c T) →
    xOp Tryz.prog e ⟨dst, .store 93 x y, ty', pos, af, gd⟩ (w.alloc (.cells #[.int .i64 0, .bool false, .bool false, .bool false, .bool false, .bool false, .bool false, .bool false, .bool false, .bool false, .bool false, .bool false, .bool false, .bool false, .bool false, .bool false, .bool false] 93)) = .ok .skip (w.alloc (.cells (slabC c T) 93)) :=
  stNew (P := Tryz.prog) (slabI' c T) (by rw [slabC_size]; rfl) (slabC_one c T)
/-- One more number behind a slice of the call's own. -/
theorem push_nat {w0 w : World} {a : Option Addr} {len c : Nat} {l : List Nat} (base : Nat) (hown : w.ownsRow base 3 1 (.slice a len c) len (nats l)) (hl : len ≤ 1000000) (hbase : base ≤ w.heap.size) (hb : Below base w0 w) (i : Nat) :
    ∃ a2 c2 w2, (appendB #[37, 37] 37 #[.slice a len c, .slice (some ⟨w.heap.size, 0, none⟩) 1 1]).run Tryz.prog (w.alloc (.cells #[.int .i64 (i : Int)] 3)) = .ok (.slice a2 (len + 1) c2) w2 ∧
      w2.ownsRow base 3 1 (.slice a2 (len + 1) c2) (len + 1) (nats (l ++ [i])) ∧ Below base w0 w2 ∧ base ≤ w2.heap.size := by
  have ha : (w.alloc (.cells #[.int .i64 (i : Int)] 3)).heap.size = w.heap.size + 1 := by simp
  obtain ⟨a2, c2, w2, hr2, hown2, hgr⟩ := run_append1 (P := Tryz.prog) base (t := 37) (bytes := 8) (z := .int .i64 0) 37 Tryz.underlying37 info_int rfl (hown.alloc (.cells #[.int .i64 (i : Int)] 3)) (a2 := some ⟨w.heap.size, 0, none⟩) (c2 := 1) (m := 1) (news := [.int .i64 (i : Int)]) rfl
    (.inr ⟨_, rfl, fun j u hu => by rw [Addr.add_lit, Nat.zero_add, (Blk.new _ _ _).cell]; simpa using hu⟩) (by simp) (by simp [Value.oneCell']) (by omega) (by omega) (by omega)
  have hb2 := (hb.alloc hbase (.cells #[.int .i64 (i : Int)] 3)).grown hgr (by omega) (fun j hj => (hown.lt j hj).1)
  refine ⟨a2, c2, w2, hr2, by rw [nats_append]; exact hown2, hb2, ?_⟩
  have := hgr.size
  omega

set_option maxHeartbeats 1000000 in
set_option linter.unusedSimpArgs false in
theorem list_calls (x : BitVec 64) (w0 : World) : Ret Tryz.prog 50 #[.int .u64 (uv x)] w0 fun v w' => ∃ a c, v = .slice a (WM.listM x).length c ∧ VsIn w' a (nats (WM.listM x)) c ∧ Below w0.heap.size w0 w' := by
  have bel0 := Below.refl w0.heap.size w0
  obtain ⟨n, hn⟩ : ∃ n : Nat, WM.blocksI (WM.classM x) = n := by
    rw [WM.cR_class, WM.blocksI_nat]; exact ⟨_, rfl⟩
  have hn16 : n ≤ 16 := by
    rw [WM.cR_class, WM.blocksI_nat] at hn; have := WM.bl_le (WM.cR x); omega
  have hlist : WM.listM x = lstK (fun (i : Nat) => WM.hasM x i) n := by
    unfold WM.listM lstK; rw [WM.cR_class] at hn ⊢; rw [WM.blocksI_nat] at hn; congr 2; rw [Int.toNat_natCast]; omega
  refine ret_of (args := [_]) _ Tryz.func50 rfl Tryz.ntmps50 (by simp) ?_
  simp -implicitDefEqProofs [go_sem]
  refine callE_of (class_calls x w0) ?_
  rintro v w1 ⟨rfl, b1⟩
  have bel1 := bel0.trans (b1.mono bel0.size)
  simp -implicitDefEqProofs [go_sem]
  refine callE_of (blocks_calls _ w1) ?_
  rintro v w2 ⟨rfl, rfl⟩
  rw [hn]
  simp -implicitDefEqProofs [go_sem]
  refine wpE_loop (fun e' w' => ∃ (k len : Nat) (a : Option Addr) (c : Nat), k ≤ n ∧ e' 0 = .int .u64 (uv x) ∧ e' 3 = .slice a len c ∧ e' 7 = .int .i64 n ∧ e' 8 = .int .i64 k ∧ len = (lstK (fun (i : Nat) => WM.hasM x i) k).length ∧
    w'.ownsRow w0.heap.size 3 1 (.slice a len c) len (nats (lstK (fun (i : Nat) => WM.hasM x i) k)) ∧ Below w0.heap.size w0 w' ∧ w0.heap.size ≤ w'.heap.size) (fun e' _ => n - (intOf (e' 8)).toNat) ?_ ?_
  · refine ⟨0, 0, none, 0, by omega, ?_⟩
    simp -implicitDefEqProofs [go_sem, lstK_zero]
    exact ⟨World.ownsRow_nil _ _ _ _, bel1, bel1.size⟩
  · rintro e' w' ⟨k, len, a, c, hk, h0, h3, h7, h8, hlen, hown, bel, hsz⟩
    have hl16 : len ≤ 16 := by rw [hlen]; have := filter_len (fun (i : Nat) => WM.hasM x i) k; omega
    by_cases hlt : k < n
    · have hlt' : (k : Int) < n := by omega
      have hw := IntWalk.i64_in ((k : Int) + 1) (by omega)
      have hfs := filter_succ (fun (i : Nat) => WM.hasM x i) k
      simp -implicitDefEqProofs [go_sem, h0, h3, h7, h8, hlt, hlt']
      refine callE_of (has_calls' x k w') ?_
      rintro v w3 ⟨rfl, b3⟩
      have bel3 := bel.trans (b3.mono hsz)
      have hown3 := ownsRow_next hown b3
      cases hh : WM.hasM x k
      · rw [hh] at hfs
        simp only [Bool.false_eq_true, if_false, List.append_nil] at hfs
        simp -implicitDefEqProofs [go_sem, h3, h8, hw]
        refine goE_round ⟨k + 1, len, a, c, by omega, ?_⟩ ?_
        · simp -implicitDefEqProofs [go_sem, h0, h3, h7]
          exact ⟨by rw [hfs]; exact hlen, by rw [hfs]; exact hown3, bel3, by have := b3.size; omega⟩
        · simp -implicitDefEqProofs [go_sem, intOf, h8]; omega
      · rw [hh] at hfs
        simp only [if_true] at hfs
        obtain ⟨a2, c2, w4, hr4, hown4, bel4, hsz4⟩ := push_nat w0.heap.size hown3 (by omega) (by have := b3.size; omega) bel3 k
        simp -implicitDefEqProofs [go_sem, h0, h3, h7, h8, hr4, hw]
        refine goE_round ⟨k + 1, len + 1, a2, c2, by omega, ?_⟩ ?_
        · simp -implicitDefEqProofs [go_sem, h0, h7]
          exact ⟨by rw [hfs]; simp [hlen], by rw [hfs]; exact hown4, bel4, hsz4⟩
        · simp -implicitDefEqProofs [go_sem, intOf, h8]; omega
    · have hk' : k = n := by omega
      subst hk'
      rw [← hlist] at hlen hown
      simp -implicitDefEqProofs [go_sem, h0, h3, h7, h8]
      refine body_tmp 2 rfl ?_
      simp -implicitDefEqProofs [go_sem]
      exact ⟨a, c, ⟨rfl, hlen, rfl⟩, owns_vsIn (by rw [nats_length]; exact hlen.symm) hown, bel⟩

set_option maxHeartbeats 1000000 in
set_option linter.unusedSimpArgs false in
theorem refList_calls (x : BitVec 64) (w0 : World) : Ret Tryz.prog 51 #[.int .u64 (uv x)] w0 fun v w' => ∃ a c, v = .slice a (WM.listM x).length c ∧ VsIn w' a (nats (WM.listM x)) c ∧ Below w0.heap.size w0 w' := by
  have bel0 := Below.refl w0.heap.size w0
  have hlist : WM.listM x = lstK (WM.tR x) 16 := WM.list_ref x
  have hst := Tryz.underlying93
  refine ret_of (args := [_]) _ Tryz.func51 rfl Tryz.ntmps51 (by simp) ?_
  simp -implicitDefEqProofs [go_sem]
  refine callE_of (of_calls x w0) ?_
  rintro v w1 ⟨rfl, b1⟩
  have bel1 := bel0.trans (b1.mono bel0.size)
  simp -implicitDefEqProofs [go_sem, ↓stSlab (WM.cR x) (WM.tR x)]
  generalize hw2 : World.alloc w1 _ = w2 at *
  obtain ⟨hB2, b2, sz2⟩ := new_facts hw2
  have bel2 := bel1.trans (b2.mono bel1.size)
  refine wpE_loop (fun e' w' => ∃ (k len : Nat) (a : Option Addr) (c : Nat), k ≤ 16 ∧ e' 3 = .pointer (some ⟨w1.heap.size, 0, none⟩) ∧ e' 5 = .slice a len c ∧ e' 6 = .int .i64 k ∧ len = (lstK (WM.tR x) k).length ∧
    w'.ownsRow w2.heap.size 3 1 (.slice a len c) len (nats (lstK (WM.tR x) k)) ∧ Below w2.heap.size w2 w' ∧ w2.heap.size ≤ w'.heap.size) (fun e' _ => 16 - (intOf (e' 6)).toNat) ?_ ?_
  · refine ⟨0, 0, none, 0, by omega, ?_⟩
    simp -implicitDefEqProofs [go_sem, lstK_zero]
    exact ⟨World.ownsRow_nil _ _ _ _, Below.refl _ _⟩
  · rintro e' w' ⟨k, len, a, c, hk, h3, h5, h6, hlen, hown, bel, hsz⟩
    have hl16 : len ≤ 16 := by rw [hlen]; have := filter_len (WM.tR x) k; omega
    by_cases hlt : k < 16
    · have hlt' : (k : Int) < 16 := by omega
      have hw := IntWalk.i64_in ((k : Int) + 1) (by omega)
      have hfs := filter_succ (WM.tR x) k
      have g := (hB2.next bel).cell (1 + k)
      rw [slabC_at _ _ _ hlt] at g
      cases hh : WM.tR x k
      · rw [hh] at hfs g
        simp only [Bool.false_eq_true, if_false, List.append_nil] at hfs
        simp -implicitDefEqProofs [go_sem, h3, h5, h6, hlt, hlt', g, hw]
        refine goE_round ⟨k + 1, len, a, c, by omega, ?_⟩ ?_
        · simp -implicitDefEqProofs [go_sem, h3, h5]
          exact ⟨by rw [hfs]; exact hlen, by rw [hfs]; exact hown, bel, hsz⟩
        · simp -implicitDefEqProofs [go_sem, intOf, h6]; omega
      · rw [hh] at hfs g
        simp only [if_true] at hfs
        obtain ⟨a2, c2, w4, hr4, hown4, bel4, hsz4⟩ := push_nat w2.heap.size hown (by omega) hsz bel k
        simp -implicitDefEqProofs [go_sem, h3, h5, h6, hlt, hlt', g, hr4, hw]
        refine goE_round ⟨k + 1, len + 1, a2, c2, by omega, ?_⟩ ?_
        · simp -implicitDefEqProofs [go_sem, h3]
          exact ⟨by rw [hfs]; simp [hlen], by rw [hfs]; exact hown4, bel4, hsz4⟩
        · simp -implicitDefEqProofs [go_sem, intOf, h6]; omega
    · have hk' : k = 16 := by omega
      subst hk'
      rw [← hlist] at hlen hown
      simp -implicitDefEqProofs [go_sem, h3, h5, h6]
      refine body_tmp 2 rfl ?_
      simp -implicitDefEqProofs [go_sem]
      exact ⟨a, c, ⟨rfl, hlen, rfl⟩, owns_vsIn (by rw [nats_length]; exact hlen.symm) hown, bel2.trans (bel.mono bel2.size)⟩

/-! ### Next, Take, Drop -/
set_option maxHeartbeats 1000000 in
set_option linter.unusedSimpArgs false in
theorem refNext_calls (x : BitVec 64) (c : Int) (w0 : World) : Ret Tryz.prog 38 #[.int .u64 (uv x), .int .i64 c] w0 fun v w' => v = .int .i64 (WM.nextM x c) ∧ Below w0.heap.size w0 w' := by
  have bel0 := Below.refl w0.heap.size w0
  have hnx := WM.next_ref x c
  refine ret_of (args := [_, _]) _ Tryz.func38 rfl Tryz.ntmps38 (by simp) ?_
  simp -implicitDefEqProofs [go_sem]
  refine callE_of (of_calls x w0) ?_
  rintro v w1 ⟨rfl, b1⟩
  have bel1 := bel0.trans (b1.mono bel0.size)
  cases hb : WM.rB x
  · simp -implicitDefEqProofs [go_sem, ↓stSlab (WM.cR x) (WM.tR x)]
    refine body_tmp 4 rfl ?_
    simp -implicitDefEqProofs [go_sem, hnx, hb]
    exact bel1.alloc bel1.size _
  · have e0 : ((WM.cR x : Int) != 0) = !decide ((WM.cR x : Int) = 0) := by
      rw [Bool.eq_iff_iff, bne_iff_ne, Bool.not_eq_true', decide_eq_false_iff_not]
    have e1 : ((WM.cR x : Int) != c) = !decide ((WM.cR x : Int) = c) := by
      rw [Bool.eq_iff_iff, bne_iff_ne, Bool.not_eq_true', decide_eq_false_iff_not]
    have hbl := WM.blocksI_le c
    by_cases hc : (WM.cR x : Int) = 0 ∨ (WM.cR x : Int) = c
    · rw [hb, if_pos ⟨rfl, hc⟩] at hnx
      obtain ⟨n, hn⟩ : ∃ n : Nat, WM.blocksI c = n := ⟨(WM.blocksI c).toNat, by omega⟩
      rw [hn, Int.toNat_natCast] at hnx
      have hd0 : decide ((WM.cR x : Int) = 0) = true ∨ (decide ((WM.cR x : Int) = 0) = false ∧ decide ((WM.cR x : Int) = c) = true) := by
        by_cases h : (WM.cR x : Int) = 0
        · exact .inl (decide_eq_true h)
        · exact .inr ⟨decide_eq_false h, decide_eq_true (hc.resolve_left h)⟩
      rcases hd0 with hd | ⟨hd, hd2⟩
      · rw [hd] at e0
        simp -implicitDefEqProofs [go_sem, ↓stSlab (WM.cR x) (WM.tR x), slabC_0, e0]
        generalize hw2 : World.alloc w1 _ = w2 at *
        obtain ⟨hB2, b2, sz2⟩ := new_facts hw2
        have bel2 := bel1.trans (b2.mono bel1.size)
        refine wpE_loop (fun e' w' => ∃ k : Nat, k ≤ n ∧ e' 1 = .int .i64 c ∧ e' 5 = .pointer (some ⟨w1.heap.size, 0, none⟩) ∧ e' 7 = .int .i64 k ∧ WM.firstOff x 0 n = WM.firstOff x k (n - k) ∧ w' = w2) (fun e' _ => 16 - (intOf (e' 7)).toNat) ?_ ?_
        · refine ⟨0, by omega, ?_⟩
          simp -implicitDefEqProofs [go_sem]
        · rintro e' w' ⟨k, hk, h1, h5, h7, hf, rfl⟩
          simp -implicitDefEqProofs [go_sem, h1, h5, h7]
          refine callE_of (refBlocks_calls c w') ?_
          rintro v w3 ⟨rfl, rfl⟩
          rw [hn]
          by_cases hlt : k < n
          · have hlt' : (k : Int) < n := by omega
            have hlt16 : k < 16 := by omega
            have hlt16' : (k : Int) < 16 := by omega
            have hw := IntWalk.i64_in ((k : Int) + 1) (by omega)
            have hst : WM.firstOff x k (n - k) = if x.getLsbD k then WM.firstOff x (k + 1) (n - (k + 1)) else (k : Int) := by
              rw [show n - k = (n - (k + 1)) + 1 by omega]; rfl
            have g := hB2.cell (1 + k)
            rw [slabC_at _ _ _ hlt16] at g
            have hT : WM.tR x k = x.getLsbD k := by unfold WM.tR; rw [hb, Bool.true_and]
            rw [hT] at g
            cases hx : x.getLsbD k
            · rw [hx] at g
              rw [if_neg (by rw [hx]; simp)] at hst
              simp -implicitDefEqProofs [go_sem, h1, h5, h7, hlt, hlt', hlt16, hlt16', g]
              refine body_tmp 4 rfl ?_
              simp -implicitDefEqProofs [go_sem, hnx, hf, hst]
              exact bel2
            · rw [hx] at g
              rw [if_pos hx] at hst
              simp -implicitDefEqProofs [go_sem, h1, h5, h7, hlt, hlt', hlt16, hlt16', g, hw]
              refine goE_round ⟨k + 1, by omega, ?_⟩ ?_
              · simp -implicitDefEqProofs [go_sem, h1, h5]
                rw [hf, hst]
              · simp -implicitDefEqProofs [go_sem, intOf, h7, hw]; omega
          · have hk' : k = n := by omega
            subst hk'
            have hst : WM.firstOff x k 0 = -1 := rfl
            rw [Nat.sub_self] at hf
            simp -implicitDefEqProofs [go_sem, h1, h5, h7]
            refine body_tmp 4 rfl ?_
            simp -implicitDefEqProofs [go_sem, hnx, hf, hst]
            exact bel2
      · rw [hd] at e0
        rw [hd2] at e1
        simp -implicitDefEqProofs [go_sem, ↓stSlab (WM.cR x) (WM.tR x), slabC_0, e0, e1]
        generalize hw2 : World.alloc w1 _ = w2 at *
        obtain ⟨hB2, b2, sz2⟩ := new_facts hw2
        have bel2 := bel1.trans (b2.mono bel1.size)
        refine wpE_loop (fun e' w' => ∃ k : Nat, k ≤ n ∧ e' 1 = .int .i64 c ∧ e' 5 = .pointer (some ⟨w1.heap.size, 0, none⟩) ∧ e' 7 = .int .i64 k ∧ WM.firstOff x 0 n = WM.firstOff x k (n - k) ∧ w' = w2) (fun e' _ => 16 - (intOf (e' 7)).toNat) ?_ ?_
        · refine ⟨0, by omega, ?_⟩
          simp -implicitDefEqProofs [go_sem]
        · rintro e' w' ⟨k, hk, h1, h5, h7, hf, rfl⟩
          simp -implicitDefEqProofs [go_sem, h1, h5, h7]
          refine callE_of (refBlocks_calls c w') ?_
          rintro v w3 ⟨rfl, rfl⟩
          rw [hn]
          by_cases hlt : k < n
          · have hlt' : (k : Int) < n := by omega
            have hlt16 : k < 16 := by omega
            have hlt16' : (k : Int) < 16 := by omega
            have hw := IntWalk.i64_in ((k : Int) + 1) (by omega)
            have hst : WM.firstOff x k (n - k) = if x.getLsbD k then WM.firstOff x (k + 1) (n - (k + 1)) else (k : Int) := by
              rw [show n - k = (n - (k + 1)) + 1 by omega]; rfl
            have g := hB2.cell (1 + k)
            rw [slabC_at _ _ _ hlt16] at g
            have hT : WM.tR x k = x.getLsbD k := by unfold WM.tR; rw [hb, Bool.true_and]
            rw [hT] at g
            cases hx : x.getLsbD k
            · rw [hx] at g
              rw [if_neg (by rw [hx]; simp)] at hst
              simp -implicitDefEqProofs [go_sem, h1, h5, h7, hlt, hlt', hlt16, hlt16', g]
              refine body_tmp 4 rfl ?_
              simp -implicitDefEqProofs [go_sem, hnx, hf, hst]
              exact bel2
            · rw [hx] at g
              rw [if_pos hx] at hst
              simp -implicitDefEqProofs [go_sem, h1, h5, h7, hlt, hlt', hlt16, hlt16', g, hw]
              refine goE_round ⟨k + 1, by omega, ?_⟩ ?_
              · simp -implicitDefEqProofs [go_sem, h1, h5]
                rw [hf, hst]
              · simp -implicitDefEqProofs [go_sem, intOf, h7, hw]; omega
          · have hk' : k = n := by omega
            subst hk'
            have hst : WM.firstOff x k 0 = -1 := rfl
            rw [Nat.sub_self] at hf
            simp -implicitDefEqProofs [go_sem, h1, h5, h7]
            refine body_tmp 4 rfl ?_
            simp -implicitDefEqProofs [go_sem, hnx, hf, hst]
            exact bel2
    · rw [hb, if_neg (fun h => hc h.2)] at hnx
      rw [decide_eq_false (fun h => hc (.inl h))] at e0
      rw [decide_eq_false (fun h => hc (.inr h))] at e1
      simp -implicitDefEqProofs [go_sem, ↓stSlab (WM.cR x) (WM.tR x), slabC_0, e0, e1]
      refine body_tmp 4 rfl ?_
      simp -implicitDefEqProofs [go_sem, hnx]
      exact bel1.alloc bel1.size _

set_option maxHeartbeats 1000000 in
set_option linter.unusedSimpArgs false in
theorem refTake_calls (x : BitVec 64) (c p : Int) (w0 : World) : Ret Tryz.prog 39 #[.int .u64 (uv x), .int .i64 c, .int .i64 p] w0 fun v w' => v = .tuple #[.int .u64 (uv (WM.takeW x c p)), .bool (WM.takeOk x c p)] ∧ Below w0.heap.size w0 w' := by
  have bel0 := Below.refl w0.heap.size w0
  have hst := Tryz.underlying93
  have hbl := WM.blocksI_le c
  refine ret_of (args := [_, _, _]) _ Tryz.func39 rfl Tryz.ntmps39 (by simp) ?_
  simp -implicitDefEqProofs [go_sem]
  refine callE_of (of_calls x w0) ?_
  rintro v w1 ⟨rfl, b1⟩
  have bel1 := bel0.trans (b1.mono bel0.size)
  have hno : (WM.rB x = false ∨ ¬ ((WM.cR x : Int) = 0 ∨ (WM.cR x : Int) = c)) → WM.takeOk x c p = false := by
    intro h
    cases hok : WM.takeOk x c p
    · rfl
    · exfalso
      have hok2 := hok
      unfold WM.takeOk at hok2
      simp only [Bool.and_eq_true, decide_eq_true_eq] at hok2
      obtain ⟨q, rfl⟩ := Int.eq_ofNat_of_zero_le hok2.1.1.2
      rw [WM.take_ref x c q hok2.1.2] at hok
      simp only [Bool.and_eq_true, Bool.or_eq_true, decide_eq_true_eq] at hok
      rcases h with h | h
      · rw [h] at hok; exact absurd hok.1.1 (by simp)
      · exact h hok.1.2
  cases hb : WM.rB x
  · have hok := hno (.inl hb)
    simp -implicitDefEqProofs [go_sem, ↓stSlab (WM.cR x) (WM.tR x)]
    refine body_tmp2 6 7 rfl ?_
    simp -implicitDefEqProofs [go_sem, hok, WM.take_no hok]
    exact bel1.alloc bel1.size _
  have e0 : ((WM.cR x : Int) != 0) = !decide ((WM.cR x : Int) = 0) := by
    rw [Bool.eq_iff_iff, bne_iff_ne, Bool.not_eq_true', decide_eq_false_iff_not]
  have e1 : ((WM.cR x : Int) != c) = !decide ((WM.cR x : Int) = c) := by
    rw [Bool.eq_iff_iff, bne_iff_ne, Bool.not_eq_true', decide_eq_false_iff_not]
  by_cases hc : (WM.cR x : Int) = 0 ∨ (WM.cR x : Int) = c
  · by_cases hd : (WM.cR x : Int) = 0
    · rw [decide_eq_true hd] at e0
      simp -implicitDefEqProofs [go_sem, ↓stSlab (WM.cR x) (WM.tR x), slabC_0, e0, e1]
      generalize hw2 : World.alloc w1 _ = w2 at *
      obtain ⟨hB2, b2, sz2⟩ := new_facts hw2
      have bel2 := bel1.trans (b2.mono bel1.size)
      by_cases h0 : p < 0
      · have hok : WM.takeOk x c p = false := by
          unfold WM.takeOk; rw [decide_eq_false (by omega : ¬ 0 ≤ p)]; simp
        simp -implicitDefEqProofs [go_sem, h0]
        refine body_tmp2 6 7 rfl ?_
        simp -implicitDefEqProofs [go_sem, hok, WM.take_no hok]
        exact bel2
      simp -implicitDefEqProofs [go_sem, h0]
      refine callE_of (refBlocks_calls c w2) ?_
      rintro v w3 ⟨rfl, rfl⟩
      by_cases h1 : WM.blocksI c ≤ p
      · have hok : WM.takeOk x c p = false := by
          unfold WM.takeOk; rw [decide_eq_false (by omega : ¬ p < WM.blocksI c)]; simp
        simp -implicitDefEqProofs [go_sem, h1]
        refine body_tmp2 6 7 rfl ?_
        simp -implicitDefEqProofs [go_sem, hok, WM.take_no hok]
        exact bel2
      obtain ⟨q, rfl⟩ := Int.eq_ofNat_of_zero_le (by omega : 0 ≤ p)
      have hq16 : q < 16 := by omega
      have hq16' : (q : Int) < 16 := by omega
      have hok := WM.take_ref x c q (by omega)
      rw [hb, Bool.true_and] at hok
      have g := hB2.cell (1 + q)
      rw [slabC_at _ _ _ hq16] at g
      have hcc : (decide ((WM.cR x : Int) = 0) || decide ((WM.cR x : Int) = c)) = true := by
        rw [Bool.or_eq_true, decide_eq_true_iff, decide_eq_true_iff]; exact hc
      rw [hcc, Bool.true_and] at hok
      cases hT : WM.tR x q
      · rw [hT] at hok g
        obtain ⟨cn, rfl, hcn⟩ := WM.blocksI_pos (c := c) (by omega)
        have hqb : q < WM.bl cn := by have := WM.blocksI_nat cn; omega
        have hy := WM.take_yes hcn hqb hok
        have hs0 := hB2.set 0 (.int .i64 (cn : Int))
        rw [slabC_set0] at hs0
        have hs1 := hs0.set (1 + q) (.bool true)
        rw [slabC_setT _ _ _ hq16] at hs1
        have bel5 : Below w0.heap.size w0 ((w3.setCell ⟨w1.heap.size, 0, none⟩ (.int .i64 (cn : Int))).setCell ⟨w1.heap.size, 1 + q, none⟩ (.bool true)) := (bel2.setCell (by show w0.heap.size ≤ w1.heap.size; exact bel1.size) _).setCell (by show w0.heap.size ≤ w1.heap.size; exact bel1.size) _
        have z0 := hB2.cell 0
        have f0 := hB2.thaw 0
        have z1 := hs0.cell (1 + q)
        rw [slabC_at _ _ _ hq16] at z1
        have f1 := hs0.thaw (1 + q)
        rw [slabC_0] at z0
        generalize hw4 : World.setCell w3 _ _ = w4 at *
        generalize hw5 : World.setCell w4 _ _ = w5 at *
        simp -implicitDefEqProofs [go_sem, h1, hq16, hq16', g, z0, f0, hw4, z1, f1, hw5, ↓ldAll hs1 hst rfl slabI (slabC_size _ _)]
        refine callE_of (word_calls cn _ w5 (by omega)) ?_
        rintro v w6 ⟨rfl, b6⟩
        simp -implicitDefEqProofs [go_sem]
        refine body_tmp2 6 7 rfl ?_
        simp -implicitDefEqProofs [go_sem, hok, hy]
        exact bel5.trans (b6.mono bel5.size)
      · rw [hT] at hok g
        simp -implicitDefEqProofs [go_sem, h1, hq16, hq16', g]
        refine body_tmp2 6 7 rfl ?_
        simp -implicitDefEqProofs [go_sem, hok, WM.take_no hok]
        exact bel2
    · have hd2 := hc.resolve_left hd
      rw [decide_eq_false hd] at e0
      rw [decide_eq_true hd2] at e1
      simp -implicitDefEqProofs [go_sem, ↓stSlab (WM.cR x) (WM.tR x), slabC_0, e0, e1]
      generalize hw2 : World.alloc w1 _ = w2 at *
      obtain ⟨hB2, b2, sz2⟩ := new_facts hw2
      have bel2 := bel1.trans (b2.mono bel1.size)
      by_cases h0 : p < 0
      · have hok : WM.takeOk x c p = false := by
          unfold WM.takeOk; rw [decide_eq_false (by omega : ¬ 0 ≤ p)]; simp
        simp -implicitDefEqProofs [go_sem, h0]
        refine body_tmp2 6 7 rfl ?_
        simp -implicitDefEqProofs [go_sem, hok, WM.take_no hok]
        exact bel2
      simp -implicitDefEqProofs [go_sem, h0]
      refine callE_of (refBlocks_calls c w2) ?_
      rintro v w3 ⟨rfl, rfl⟩
      by_cases h1 : WM.blocksI c ≤ p
      · have hok : WM.takeOk x c p = false := by
          unfold WM.takeOk; rw [decide_eq_false (by omega : ¬ p < WM.blocksI c)]; simp
        simp -implicitDefEqProofs [go_sem, h1]
        refine body_tmp2 6 7 rfl ?_
        simp -implicitDefEqProofs [go_sem, hok, WM.take_no hok]
        exact bel2
      obtain ⟨q, rfl⟩ := Int.eq_ofNat_of_zero_le (by omega : 0 ≤ p)
      have hq16 : q < 16 := by omega
      have hq16' : (q : Int) < 16 := by omega
      have hok := WM.take_ref x c q (by omega)
      rw [hb, Bool.true_and] at hok
      have g := hB2.cell (1 + q)
      rw [slabC_at _ _ _ hq16] at g
      have hcc : (decide ((WM.cR x : Int) = 0) || decide ((WM.cR x : Int) = c)) = true := by
        rw [Bool.or_eq_true, decide_eq_true_iff, decide_eq_true_iff]; exact hc
      rw [hcc, Bool.true_and] at hok
      cases hT : WM.tR x q
      · rw [hT] at hok g
        obtain ⟨cn, rfl, hcn⟩ := WM.blocksI_pos (c := c) (by omega)
        have hqb : q < WM.bl cn := by have := WM.blocksI_nat cn; omega
        have hy := WM.take_yes hcn hqb hok
        have hs0 := hB2.set 0 (.int .i64 (cn : Int))
        rw [slabC_set0] at hs0
        have hs1 := hs0.set (1 + q) (.bool true)
        rw [slabC_setT _ _ _ hq16] at hs1
        have bel5 : Below w0.heap.size w0 ((w3.setCell ⟨w1.heap.size, 0, none⟩ (.int .i64 (cn : Int))).setCell ⟨w1.heap.size, 1 + q, none⟩ (.bool true)) := (bel2.setCell (by show w0.heap.size ≤ w1.heap.size; exact bel1.size) _).setCell (by show w0.heap.size ≤ w1.heap.size; exact bel1.size) _
        have z0 := hB2.cell 0
        have f0 := hB2.thaw 0
        have z1 := hs0.cell (1 + q)
        rw [slabC_at _ _ _ hq16] at z1
        have f1 := hs0.thaw (1 + q)
        rw [slabC_0] at z0
        generalize hw4 : World.setCell w3 _ _ = w4 at *
        generalize hw5 : World.setCell w4 _ _ = w5 at *
        simp -implicitDefEqProofs [go_sem, h1, hq16, hq16', g, z0, f0, hw4, z1, f1, hw5, ↓ldAll hs1 hst rfl slabI (slabC_size _ _)]
        refine callE_of (word_calls cn _ w5 (by omega)) ?_
        rintro v w6 ⟨rfl, b6⟩
        simp -implicitDefEqProofs [go_sem]
        refine body_tmp2 6 7 rfl ?_
        simp -implicitDefEqProofs [go_sem, hok, hy]
        exact bel5.trans (b6.mono bel5.size)
      · rw [hT] at hok g
        simp -implicitDefEqProofs [go_sem, h1, hq16, hq16', g]
        refine body_tmp2 6 7 rfl ?_
        simp -implicitDefEqProofs [go_sem, hok, WM.take_no hok]
        exact bel2
  · have hok := hno (.inr hc)
    rw [decide_eq_false (fun h => hc (.inl h))] at e0
    rw [decide_eq_false (fun h => hc (.inr h))] at e1
    simp -implicitDefEqProofs [go_sem, ↓stSlab (WM.cR x) (WM.tR x), slabC_0, e0, e1]
    refine body_tmp2 6 7 rfl ?_
    simp -implicitDefEqProofs [go_sem, hok, WM.take_no hok]
    exact bel1.alloc bel1.size _

set_option maxHeartbeats 1000000 in
set_option linter.unusedSimpArgs false in
theorem refDrop_calls (x : BitVec 64) (p : Int) (w0 : World) : Ret Tryz.prog 46 #[.int .u64 (uv x), .int .i64 p] w0 fun v w' => v = .tuple #[.int .u64 (uv (WM.dropW x p)), .bool (WM.hasM x p)] ∧ Below w0.heap.size w0 w' := by
  have bel0 := Below.refl w0.heap.size w0
  have hst := Tryz.underlying93
  refine ret_of (args := [_, _]) _ Tryz.func46 rfl Tryz.ntmps46 (by simp) ?_
  simp -implicitDefEqProofs [go_sem]
  refine callE_of (of_calls x w0) ?_
  rintro v w1 ⟨rfl, b1⟩
  have bel1 := bel0.trans (b1.mono bel0.size)
  cases hb : WM.rB x
  · have hh : WM.hasM x p = false := WM.has_wrong (by rw [← WM.rB_eq]; exact hb) p
    simp -implicitDefEqProofs [go_sem, ↓stSlab (WM.cR x) (WM.tR x)]
    refine body_tmp2 4 5 rfl ?_
    simp -implicitDefEqProofs [go_sem, hh, WM.drop_no hh]
    exact bel1.alloc bel1.size _
  by_cases h0 : p < 0
  · have hh := WM.has_out x p (.inl h0)
    simp -implicitDefEqProofs [go_sem, ↓stSlab (WM.cR x) (WM.tR x), h0]
    refine body_tmp2 4 5 rfl ?_
    simp -implicitDefEqProofs [go_sem, hh, WM.drop_no hh]
    exact bel1.alloc bel1.size _
  by_cases h1 : 16 ≤ p
  · have hh := WM.has_out x p (.inr h1)
    simp -implicitDefEqProofs [go_sem, ↓stSlab (WM.cR x) (WM.tR x), h0, h1]
    refine body_tmp2 4 5 rfl ?_
    simp -implicitDefEqProofs [go_sem, hh, WM.drop_no hh]
    exact bel1.alloc bel1.size _
  obtain ⟨q, rfl⟩ := Int.eq_ofNat_of_zero_le (by omega : 0 ≤ p)
  have hq16 : q < 16 := by omega
  have hq16' : (q : Int) < 16 := by omega
  have hqN : ¬ 16 ≤ q := by omega
  have hqz : ¬ (q : Int) < 0 := by omega
  cases hT : WM.tR x q
  · have hh : WM.hasM x q = false := by rw [WM.has_ref x q hq16, hT]
    have hs := slabC_at (WM.cR x) (WM.tR x) q hq16
    rw [hT] at hs
    simp -implicitDefEqProofs [go_sem, ↓stSlab (WM.cR x) (WM.tR x), h1, hqN, hqz, hq16, hq16', hs]
    refine body_tmp2 4 5 rfl ?_
    simp -implicitDefEqProofs [go_sem, hh, WM.drop_no hh]
    exact bel1.alloc bel1.size _
  · obtain ⟨hh, hc4, hy⟩ := WM.drop_yes hq16 hT
    have hs := slabC_at (WM.cR x) (WM.tR x) q hq16
    rw [hT] at hs
    have hsz : w1.heap.size < (w1.alloc (.cells (slabC (WM.cR x) (WM.tR x)) 93)).heap.size := by simp
    have hN := Blk.new w1 (slabC (WM.cR x) (WM.tR x)) 93
    have belN : Below w0.heap.size w0 (w1.alloc (.cells (slabC (WM.cR x) (WM.tR x)) 93)) := bel1.alloc bel1.size _
    have hs1 := hN.set (1 + q) (.bool false)
    rw [slabC_setT _ _ _ hq16] at hs1
    have bel3 : Below w0.heap.size w0 ((w1.alloc (.cells (slabC (WM.cR x) (WM.tR x)) 93)).setCell ⟨w1.heap.size, 1 + q, none⟩ (.bool false)) := belN.setCell (by show w0.heap.size ≤ w1.heap.size; exact bel1.size) _
    have f1 := hN.thaw (1 + q)
    have c1 := hN.cell (1 + q)
    rw [slabC_at _ _ _ hq16, hT] at c1
    generalize hw2 : World.alloc w1 (.cells (slabC (WM.cR x) (WM.tR x)) 93) = w2 at *
    generalize hw3 : World.setCell w2 _ _ = w3 at *
    simp -implicitDefEqProofs [go_sem, ↓stSlab (WM.cR x) (WM.tR x), h1, hqN, hqz, hq16, hq16', hs, hw2, f1, c1, hw3, ↓ldAll hs1 hst rfl slabI (slabC_size _ _)]
    refine callE_of (count_calls _ _ w3) ?_
    rintro v w4 ⟨rfl, b4⟩
    have bel4 := bel3.trans (b4.mono bel3.size)
    replace hs1 := hs1.next b4
    by_cases hz : WM.cnt (WM.setT (WM.tR x) q false) 16 = 0
    · rw [if_pos hz] at hy
      have hs2 := hs1.set 0 (.int .i64 0)
      rw [slabC_set0] at hs2
      have z0 := hs1.cell 0
      rw [slabC_0] at z0
      have f0 := hs1.thaw 0
      have bel5 : Below w0.heap.size w0 (w4.setCell ⟨w1.heap.size, 0, none⟩ (.int .i64 0)) := bel4.setCell (by show w0.heap.size ≤ w1.heap.size; exact bel1.size) _
      have hz' : ((WM.cnt (WM.setT (WM.tR x) q false) 16 : Nat) : Int) = 0 := by omega
      generalize hw5 : World.setCell w4 _ _ = w5 at *
      simp -implicitDefEqProofs [go_sem, hz, hz', z0, f0, hw5, ↓ldAll hs2 hst rfl slabI (slabC_size _ _)]
      have hwd := word_calls 0 (WM.setT (WM.tR x) q false) w5 (by omega)
      refine callE_of hwd ?_
      rintro v w6 ⟨rfl, b6⟩
      simp -implicitDefEqProofs [go_sem]
      refine body_tmp2 4 5 rfl ?_
      simp -implicitDefEqProofs [go_sem, hh, hy]
      exact bel5.trans (b6.mono bel5.size)
    · rw [if_neg hz] at hy
      have hz' : (((WM.cnt (WM.setT (WM.tR x) q false) 16 : Nat) : Int) == 0) = false := by rw [beq_eq_false_iff_ne]; omega
      simp -implicitDefEqProofs [go_sem, hz', hz, ↓ldAll hs1 hst rfl slabI (slabC_size _ _)]
      refine callE_of (word_calls (WM.cR x) _ w4 hc4) ?_
      rintro v w6 ⟨rfl, b6⟩
      simp -implicitDefEqProofs [go_sem]
      refine body_tmp2 4 5 rfl ?_
      simp -implicitDefEqProofs [go_sem, hh, hy]
      exact bel4.trans (b6.mono bel4.size)
end Go.Proofs.YtcpackbljaabnaaGreatDoor
