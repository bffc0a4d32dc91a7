/- SlabW: texts in one: SlabWalk, SlabRef, SlabRef2. -/
import Derived.Test.YtejpophjiinijaaDoorWordWalk
import Derived.Test.YtejpophjiinijaaDoorSlabM
import Derived.Test.YtejpophjiinijaaDoorCore
/-! ### SlabWalk -/
namespace Go.Proofs.YtejpophjiinijaaDoor
set_option linter.unusedVariables false
set_option linter.unusedSimpArgs false
set_option maxRecDepth 100000
open Go Go.RowKit

set_option linter.unusedSimpArgs false in
theorem blocks_calls (c : Int) (w : World) : Ret Tryd.prog 69 #[.int .i64 c] w fun v w' => v = .int .i64 (WM.blocksI c) ∧ w' = w := by
  refine ret_of (args := [_]) _ Tryd.func69 rfl Tryd.ntmps69 (by simp) ?_
  by_cases h1 : c = 1
  · subst h1
    simp -implicitDefEqProofs [go_sem]
    refine body_tmp 2 rfl ?_
    simp -implicitDefEqProofs [go_sem, WM.blocksI]
  · have h1' : (c == 1) = false := by rw [beq_eq_false_iff_ne]; exact h1
    by_cases h2 : c = 2
    · subst h2
      simp -implicitDefEqProofs [go_sem]
      refine body_tmp 2 rfl ?_
      simp -implicitDefEqProofs [go_sem, WM.blocksI]
    · have h2' : (c == 2) = false := by rw [beq_eq_false_iff_ne]; exact h2
      simp -implicitDefEqProofs [go_sem, h1', h2']
      refine body_tmp 2 rfl ?_
      simp -implicitDefEqProofs [go_sem, WM.blocksI, h1, h2]
theorem kind_range (w : BitVec 64) : 0 ≤ uv (WM.kindW w) ∧ uv (WM.kindW w) < 4 := by
  obtain ⟨k, hk, h⟩ := WM.kind_lt w
  rw [h, WM.uv_ofNat4 hk]; omega
set_option linter.unusedSimpArgs false in
theorem kind_calls (x : BitVec 64) (w : World) : Ret Tryd.prog 71 #[.int .u64 (uv x)] w fun v w' => v = .int .i64 (WM.kindM x) ∧ Below w.heap.size w w' := by
  have hk := kind_range x
  have hw := IntWalk.i64_in (uv (WM.kindW x)) (by omega)
  refine ret_of (args := [_]) _ Tryd.func71 rfl Tryd.ntmps71 (by simp) ?_
  simp -implicitDefEqProofs [go_sem]
  refine callE_of (field_calls x 16 2 w) ?_
  rintro v w1 ⟨rfl, b1⟩
  rw [show WM.fieldM x 16 2 = WM.kindW x from rfl]
  simp -implicitDefEqProofs [go_sem, hw]
  refine body_tmp 2 rfl ?_
  simp -implicitDefEqProofs [go_sem, WM.kindM]
  exact b1
set_option linter.unusedSimpArgs false in
theorem taken_calls (x : BitVec 64) (w : World) : Ret Tryd.prog 91 #[.int .u64 (uv x)] w fun v w' => v = .int .u64 (uv (WM.takenM x)) ∧ Below w.heap.size w w' := by
  refine ret_of (args := [_]) _ Tryd.func91 rfl Tryd.ntmps91 (by simp) ?_
  simp -implicitDefEqProofs [go_sem]
  refine callE_of (field_calls x 0 16 w) ?_
  rintro v w1 ⟨rfl, b1⟩
  simp -implicitDefEqProofs [go_sem]
  refine body_tmp 2 rfl ?_
  simp -implicitDefEqProofs [go_sem, WM.takenM]
  exact b1
theorem right_eq (x : BitVec 64) (hx : (x == 0#64) = false) : WM.rightM x = ((WM.fieldM x 0 (WM.blocksI (WM.kindM x)) != 0#64) && (WM.withM (WM.withM x 0 (WM.blocksI (WM.kindM x)) 0#64) 16 2 0#64 == 0#64)) := by
  unfold WM.rightM; rw [hx]; rfl
set_option linter.unusedSimpArgs false in
theorem right_calls (x : BitVec 64) (w0 : World) : Ret Tryd.prog 56 #[.int .u64 (uv x)] w0 fun v w' => v = .bool (WM.rightM x) ∧ Below w0.heap.size w0 w' := by
  have bel0 := Below.refl w0.heap.size w0
  have hW := fun n low size w => with_calls n low size 0#64 w
  rw [show uv 0#64 = 0 from rfl] at hW
  refine ret_of (args := [_]) _ Tryd.func56 rfl Tryd.ntmps56 (by simp) ?_
  cases hx : x == 0#64
  · have hr := right_eq x hx
    simp -implicitDefEqProofs [go_sem, hx]
    refine callE_of (kind_calls x w0) ?_
    rintro v w1 ⟨rfl, b1⟩
    have bel1 := bel0.trans (b1.mono bel0.size)
    simp -implicitDefEqProofs [go_sem]
    refine callE_of (blocks_calls _ w1) ?_
    rintro v w2 ⟨rfl, rfl⟩
    simp -implicitDefEqProofs [go_sem]
    refine callE_of (field_calls x 0 _ w2) ?_
    rintro v w3 ⟨rfl, b3⟩
    have bel3 := bel1.trans (b3.mono bel1.size)
    cases h1 : WM.fieldM x 0 (WM.blocksI (WM.kindM x)) != 0#64
    · simp -implicitDefEqProofs [go_sem, h1]
      refine body_tmp 2 rfl ?_
      simp -implicitDefEqProofs [go_sem, hr, h1]
      exact bel3
    · simp -implicitDefEqProofs [go_sem, h1]
      refine callE_of (hW x 0 _ w3) ?_
      rintro v w4 ⟨rfl, b4⟩
      have bel4 := bel3.trans (b4.mono bel3.size)
      simp -implicitDefEqProofs [go_sem]
      refine callE_of (hW _ 16 2 w4) ?_
      rintro v w5 ⟨rfl, b5⟩
      have bel5 := bel4.trans (b5.mono bel4.size)
      simp -implicitDefEqProofs [go_sem]
      refine body_tmp 2 rfl ?_
      simp -implicitDefEqProofs [go_sem, hr, h1]
      exact bel5
  · simp -implicitDefEqProofs [go_sem, hx]
    refine body_tmp 2 rfl ?_
    simp -implicitDefEqProofs [go_sem, WM.rightM, hx]
    exact bel0
set_option linter.unusedSimpArgs false in
theorem class_calls (x : BitVec 64) (w0 : World) : Ret Tryd.prog 42 #[.int .u64 (uv x)] w0 fun v w' => v = .int .i64 (WM.classM x) ∧ Below w0.heap.size w0 w' := by
  have bel0 := Below.refl w0.heap.size w0
  refine ret_of (args := [_]) _ Tryd.func42 rfl Tryd.ntmps42 (by simp) ?_
  simp -implicitDefEqProofs [go_sem]
  refine callE_of (right_calls x w0) ?_
  rintro v w1 ⟨rfl, b1⟩
  have bel1 := bel0.trans (b1.mono bel0.size)
  cases h1 : WM.rightM x
  · simp -implicitDefEqProofs [go_sem]
    refine body_tmp 2 rfl ?_
    simp -implicitDefEqProofs [go_sem, WM.classM, h1]
    exact bel1
  · simp -implicitDefEqProofs [go_sem]
    refine callE_of (kind_calls x w1) ?_
    rintro v w2 ⟨rfl, b2⟩
    have bel2 := bel1.trans (b2.mono bel1.size)
    simp -implicitDefEqProofs [go_sem]
    refine body_tmp 2 rfl ?_
    simp -implicitDefEqProofs [go_sem, WM.classM, h1]
    exact bel2
set_option linter.unusedSimpArgs false in
theorem has_calls' (x : BitVec 64) (p : Int) (w0 : World) : Ret Tryd.prog 60 #[.int .u64 (uv x), .int .i64 p] w0 fun v w' => v = .bool (WM.hasM x p) ∧ Below w0.heap.size w0 w' := by
  have bel0 := Below.refl w0.heap.size w0
  refine ret_of (args := [_, _]) _ Tryd.func60 rfl Tryd.ntmps60 (by simp) ?_
  by_cases h0 : 0 ≤ p
  · simp -implicitDefEqProofs [go_sem, h0]
    refine callE_of (class_calls x w0) ?_
    rintro v w1 ⟨rfl, b1⟩
    have bel1 := bel0.trans (b1.mono bel0.size)
    simp -implicitDefEqProofs [go_sem]
    refine callE_of (blocks_calls _ w1) ?_
    rintro v w2 ⟨rfl, rfl⟩
    by_cases h1 : p < WM.blocksI (WM.classM x)
    · simp -implicitDefEqProofs [go_sem, h1]
      refine callE_of (field_calls x p 1 w2) ?_
      rintro v w3 ⟨rfl, b3⟩
      simp -implicitDefEqProofs [go_sem]
      refine body_tmp 4 rfl ?_
      simp -implicitDefEqProofs [go_sem, WM.hasM, h0, h1]
      exact bel1.trans (b3.mono bel1.size)
    · simp -implicitDefEqProofs [go_sem, h1]
      refine body_tmp 4 rfl ?_
      simp -implicitDefEqProofs [go_sem, WM.hasM, h0, h1]
      exact bel1
  · simp -implicitDefEqProofs [go_sem, h0]
    refine body_tmp 4 rfl ?_
    simp -implicitDefEqProofs [go_sem, WM.hasM, h0]
    exact bel0
set_option linter.unusedSimpArgs false in
theorem meets_calls (x : BitVec 64) (c : Int) (w0 : World) : Ret Tryd.prog 96 #[.int .u64 (uv x), .int .i64 c] w0 fun v w' => v = .bool (WM.meetsM x c) ∧ Below w0.heap.size w0 w' := by
  have bel0 := Below.refl w0.heap.size w0
  refine ret_of (args := [_, _]) _ Tryd.func96 rfl Tryd.ntmps96 (by simp) ?_
  simp -implicitDefEqProofs [go_sem]
  refine callE_of (right_calls x w0) ?_
  rintro v w1 ⟨rfl, b1⟩
  have bel1 := bel0.trans (b1.mono bel0.size)
  cases h1 : WM.rightM x
  · simp -implicitDefEqProofs [go_sem]
    refine body_tmp 4 rfl ?_
    simp -implicitDefEqProofs [go_sem, WM.meetsM, h1]
    exact bel1
  · simp -implicitDefEqProofs [go_sem]
    refine callE_of (blocks_calls _ w1) ?_
    rintro v w2 ⟨rfl, rfl⟩
    by_cases h2 : 0 < WM.blocksI c
    · cases h3 : x == 0#64
      · simp -implicitDefEqProofs [go_sem, h2, h3]
        refine callE_of (kind_calls x w2) ?_
        rintro v w3 ⟨rfl, b3⟩
        simp -implicitDefEqProofs [go_sem]
        refine body_tmp 4 rfl ?_
        simp -implicitDefEqProofs [go_sem, WM.meetsM, h1, h2, h3]
        exact bel1.trans (b3.mono bel1.size)
      · simp -implicitDefEqProofs [go_sem, h2, h3]
        refine body_tmp 4 rfl ?_
        simp -implicitDefEqProofs [go_sem, WM.meetsM, h1, h2, h3]
        exact bel1
    · simp -implicitDefEqProofs [go_sem, h2]
      refine body_tmp 4 rfl ?_
      simp -implicitDefEqProofs [go_sem, WM.meetsM, h1, h2]
      exact bel1
set_option linter.unusedSimpArgs false in
theorem slabNext_calls (x : BitVec 64) (c : Int) (w0 : World) (hT : Tabs w0) : Ret Tryd.prog 78 #[.int .u64 (uv x), .int .i64 c] w0 fun v w' => v = .int .i64 (WM.nextM x c) ∧ Below w0.heap.size w0 w' := by
  have bel0 := Below.refl w0.heap.size w0
  refine ret_of (args := [_, _]) _ Tryd.func78 rfl Tryd.ntmps78 (by simp) ?_
  simp -implicitDefEqProofs [go_sem]
  refine callE_of (meets_calls x c w0) ?_
  rintro v w1 ⟨rfl, b1⟩
  have bel1 := bel0.trans (b1.mono bel0.size)
  replace hT := hT.next b1
  cases h1 : WM.meetsM x c
  · simp -implicitDefEqProofs [go_sem]
    refine body_tmp 4 rfl ?_
    simp -implicitDefEqProofs [go_sem, WM.nextM, h1]
    exact bel1
  · simp -implicitDefEqProofs [go_sem]
    refine callE_of (taken_calls x w1) ?_
    rintro v w2 ⟨rfl, b2⟩
    have bel2 := bel1.trans (b2.mono bel1.size)
    replace hT := hT.next b2
    simp -implicitDefEqProofs [go_sem]
    refine callE_of (blocks_calls _ w2) ?_
    rintro v w3 ⟨rfl, rfl⟩
    simp -implicitDefEqProofs [go_sem]
    refine callE_of (low_calls _ _ w3 hT) ?_
    rintro v w4 ⟨rfl, b4⟩
    simp -implicitDefEqProofs [go_sem]
    refine body_tmp 4 rfl ?_
    simp -implicitDefEqProofs [go_sem, WM.nextM, h1]
    exact bel2.trans (b4.mono bel2.size)
set_option linter.unusedSimpArgs false in
theorem take_calls (x : BitVec 64) (c p : Int) (w0 : World) : Ret Tryd.prog 80 #[.int .u64 (uv x), .int .i64 c, .int .i64 p] w0 fun v w' => v = .tuple #[.int .u64 (uv (WM.takeW x c p)), .bool (WM.takeOk x c p)] ∧ Below w0.heap.size w0 w' := by
  have bel0 := Below.refl w0.heap.size w0
  have hW := fun n low size w => with_calls n low size 1#64 w
  rw [show uv 1#64 = 1 from rfl] at hW
  refine ret_of (args := [_, _, _]) _ Tryd.func80 rfl Tryd.ntmps80 (by simp) ?_
  simp -implicitDefEqProofs [go_sem]
  refine callE_of (meets_calls x c w0) ?_
  rintro v w1 ⟨rfl, b1⟩
  have bel1 := bel0.trans (b1.mono bel0.size)
  cases h1 : WM.meetsM x c
  · simp -implicitDefEqProofs [go_sem]
    refine body_tmp2 6 7 rfl ?_
    simp -implicitDefEqProofs [go_sem, WM.takeW, WM.takeOk, h1]
    exact bel1
  by_cases h2 : p < 0
  · have h2' : ¬ 0 ≤ p := by omega
    simp -implicitDefEqProofs [go_sem, h2]
    refine body_tmp2 6 7 rfl ?_
    simp -implicitDefEqProofs [go_sem, WM.takeW, WM.takeOk, h1, h2']
    exact bel1
  have h2' : 0 ≤ p := by omega
  simp -implicitDefEqProofs [go_sem, h2]
  refine callE_of (blocks_calls _ w1) ?_
  rintro v w2 ⟨rfl, rfl⟩
  by_cases h3 : WM.blocksI c ≤ p
  · have h3' : ¬ p < WM.blocksI c := by omega
    simp -implicitDefEqProofs [go_sem, h3]
    refine body_tmp2 6 7 rfl ?_
    simp -implicitDefEqProofs [go_sem, WM.takeW, WM.takeOk, h1, h2', h3']
    exact bel1
  have h3' : p < WM.blocksI c := by omega
  simp -implicitDefEqProofs [go_sem, h3]
  refine callE_of (has_calls' x p w2) ?_
  rintro v w3 ⟨rfl, b3⟩
  have bel3 := bel1.trans (b3.mono bel1.size)
  cases h4 : WM.hasM x p
  · simp -implicitDefEqProofs [go_sem]
    refine callE_of (hW x p 1 w3) ?_
    rintro v w4 ⟨rfl, b4⟩
    have bel4 := bel3.trans (b4.mono bel3.size)
    simp -implicitDefEqProofs [go_sem]
    refine callE_of (with_calls _ 16 2 _ w4) ?_
    rintro v w5 ⟨rfl, b5⟩
    have bel5 := bel4.trans (b5.mono bel4.size)
    simp -implicitDefEqProofs [go_sem]
    refine body_tmp2 6 7 rfl ?_
    simp -implicitDefEqProofs [go_sem, WM.takeW, WM.takeOk, h1, h2', h3', h4]
    exact bel5
  · simp -implicitDefEqProofs [go_sem]
    refine body_tmp2 6 7 rfl ?_
    simp -implicitDefEqProofs [go_sem, WM.takeW, WM.takeOk, h1, h2', h3', h4]
    exact bel3
set_option linter.unusedSimpArgs false in
theorem drop_calls (x : BitVec 64) (p : Int) (w0 : World) : Ret Tryd.prog 67 #[.int .u64 (uv x), .int .i64 p] w0 fun v w' => v = .tuple #[.int .u64 (uv (WM.dropW x p)), .bool (WM.hasM x p)] ∧ Below w0.heap.size w0 w' := by
  have bel0 := Below.refl w0.heap.size w0
  have hW := fun n low size w => with_calls n low size 0#64 w
  rw [show uv 0#64 = 0 from rfl] at hW
  refine ret_of (args := [_, _]) _ Tryd.func67 rfl Tryd.ntmps67 (by simp) ?_
  simp -implicitDefEqProofs [go_sem]
  refine callE_of (has_calls' x p w0) ?_
  rintro v w1 ⟨rfl, b1⟩
  have bel1 := bel0.trans (b1.mono bel0.size)
  cases h1 : WM.hasM x p
  · simp -implicitDefEqProofs [go_sem]
    refine body_tmp2 4 5 rfl ?_
    simp -implicitDefEqProofs [go_sem, WM.dropW, h1]
    exact bel1
  · simp -implicitDefEqProofs [go_sem]
    refine callE_of (hW x p 1 w1) ?_
    rintro v w2 ⟨rfl, b2⟩
    have bel2 := bel1.trans (b2.mono bel1.size)
    rw [show WM.withM x p 1 0#64 = WM.lessM x p from rfl]
    simp -implicitDefEqProofs [go_sem]
    refine callE_of (taken_calls _ w2) ?_
    rintro v w3 ⟨rfl, b3⟩
    have bel3 := bel2.trans (b3.mono bel2.size)
    cases h2 : WM.takenM (WM.lessM x p) == 0#64
    · simp -implicitDefEqProofs [go_sem, h2]
      refine body_tmp2 4 5 rfl ?_
      simp -implicitDefEqProofs [go_sem, WM.dropW, h1, h2]
      exact bel3
    · simp -implicitDefEqProofs [go_sem, h2]
      refine body_tmp2 4 5 rfl ?_
      have h2' : WM.takenM (WM.lessM x p) = 0#64 := by simpa using h2
      simp -implicitDefEqProofs [go_sem, WM.dropW, h1, h2', show uv 0#64 = 0 from rfl]
      exact bel3
end Go.Proofs.YtejpophjiinijaaDoor

/-! ### SlabRef -/
namespace Go.Proofs.YtejpophjiinijaaDoor
set_option linter.unusedVariables false
set_option linter.unusedSimpArgs false
set_option maxRecDepth 100000
open Go Go.RowKit

/-- A slab, as cells. -/
def slabC (c : Int) (T : Nat → Bool) : Array Value := (Value.int .i64 c :: (List.range 16).map (fun i => Value.bool (T i))).toArray
theorem slabC_size (c : Int) (T : Nat → Bool) : (slabC c T).size = 17 := by simp [slabC]
theorem slabC_0 (c : Int) (T : Nat → Bool) : (slabC c T)[0]? = some (.int .i64 c) := by simp [slabC]
theorem slabC_at (c : Int) (T : Nat → Bool) (i : Nat) (hi : i < 16) : (slabC c T)[1 + i]? = some (.bool (T i)) := by
  rw [Nat.add_comm]; simp [slabC, hi]
theorem slabC_set0 (c d : Int) (T : Nat → Bool) : (slabC c T).setIfInBounds 0 (.int .i64 d) = slabC d T := by simp [slabC]
theorem slabC_setT (c : Int) (T : Nat → Bool) (i : Nat) (hi : i < 16) (b : Bool) : (slabC c T).setIfInBounds (1 + i) (.bool b) = slabC c (WM.setT T i b) := by
  apply Array.ext_getElem?
  intro j
  rw [Array.getElem?_setIfInBounds, slabC_size]
  by_cases h0 : j = 0
  · subst h0; rw [if_neg (by omega), slabC_0, slabC_0]
  · obtain ⟨k, rfl⟩ : ∃ k, j = 1 + k := ⟨j - 1, by omega⟩
    by_cases hk : k < 16
    · rw [slabC_at _ _ _ hk, slabC_at _ _ _ hk]
      by_cases h : i = k
      · subst h; rw [if_pos rfl, if_pos (by omega)]; simp [WM.setT]
      · have h' : ¬ k = i := fun e => h e.symm
        rw [if_neg (by omega)]; simp [WM.setT, h']
    · rw [if_neg (by omega), Array.getElem?_eq_none (by rw [slabC_size]; omega), Array.getElem?_eq_none (by rw [slabC_size]; omega)]
theorem slabC_congr {c : Int} {T U : Nat → Bool} (h : ∀ i, i < 16 → T i = U i) : slabC c T = slabC c U := by
  unfold slabC
  rw [List.map_congr_left (fun i hi => by rw [h i (List.mem_range.1 hi)])]
def noT : Nat → Bool := fun _ => false
theorem slabC_zero : slabC 0 noT = #[.int .i64 0, .bool false, .bool false, .bool false, .bool false, .bool false, .bool false, .bool false, .bool false, .bool false, .bool false, .bool false, .bool false, .bool false, .bool false, .bool false, .bool false] := rfl
theorem slabC_one (c : Int) (T : Nat → Bool) : ∀ v ∈ (slabC c T).toList, v.oneCell' = true := by
  intro v hv
  simp [slabC] at hv
  rcases hv with rfl | ⟨i, _, rfl⟩ <;> rfl
def linesI (c : Int) : Int := if c = 1 then 1 else if c = 2 then 4 else 0
set_option linter.unusedSimpArgs false in
theorem lines_calls (c : Int) (w : World) : Ret Tryd.prog 70 #[.int .i64 c] w fun v w' => v = .int .i64 (linesI c) ∧ w' = w := by
  refine ret_of (args := [_]) _ Tryd.func70 rfl Tryd.ntmps70 (by simp) ?_
  by_cases h1 : c = 1
  · subst h1
    simp -implicitDefEqProofs [go_sem]
    refine body_tmp 2 rfl ?_
    simp -implicitDefEqProofs [go_sem, linesI]
  · have h1' : (c == 1) = false := by rw [beq_eq_false_iff_ne]; exact h1
    by_cases h2 : c = 2
    · subst h2
      simp -implicitDefEqProofs [go_sem]
      refine body_tmp 2 rfl ?_
      simp -implicitDefEqProofs [go_sem, linesI]
    · have h2' : (c == 2) = false := by rw [beq_eq_false_iff_ne]; exact h2
      simp -implicitDefEqProofs [go_sem, h1', h2']
      refine body_tmp 2 rfl ?_
      simp -implicitDefEqProofs [go_sem, linesI, h1, h2]
theorem noT_eq (x : BitVec 64) (h : WM.rB x = false) : slabC 0 noT = slabC 0 (WM.tR x) := by
  congr 1; funext i; simp [noT, WM.tR, h]
/-- The first k bits. -/
def upT (x : BitVec 64) (k i : Nat) : Bool := decide (i < k) && x.getLsbD i
theorem upT_zero (x : BitVec 64) : upT x 0 = noT := by funext i; simp [upT, noT]
theorem upT_set (x : BitVec 64) (k : Nat) : WM.setT (upT x k) k (x.getLsbD k) = upT x (k + 1) := by
  funext i
  unfold WM.setT upT
  by_cases h : i = k
  · subst h; simp
  · have : decide (i < k + 1) = decide (i < k) := decide_eq_decide.2 (by omega)
    rw [if_neg h, this]

end Go.Proofs.YtejpophjiinijaaDoor

/-! ### SlabRef2 -/
namespace Go.Proofs.YtejpophjiinijaaDoor
set_option linter.unusedVariables false
set_option linter.unusedSimpArgs false
set_option maxRecDepth 100000
open Go Go.RowKit

theorem info_int : (Tryd.prog.info? 3).map (fun i => (i.zero, i.size, i.bytes)) = some (some (.int .i64 0), 1, 8) := by kernel_rfl
/-- The first k of what is filtered, and one more. -/
def lstK (f : Nat → Bool) (k : Nat) : List Nat := (List.range k).filter f
theorem lstK_zero (f : Nat → Bool) : lstK f 0 = [] := rfl
theorem filter_succ (f : Nat → Bool) (k : Nat) : lstK f (k + 1) = lstK f k ++ (if f k then [k] else []) := by
  unfold lstK; rw [List.range_succ, List.filter_append]; cases h : f k <;> simp [h]
theorem filter_len (f : Nat → Bool) (k : Nat) : (lstK f k).length ≤ k := by
  have := List.length_filter_le f (List.range k); simpa [lstK] using this

/-- One more number behind a slice of the call's own. -/
theorem push_nat {w0 w : World} {a : Option Addr} {len c : Nat} {l : List Nat} (base : Nat) (hown : w.ownsRow base 3 1 (.slice a len c) len (nats l)) (hl : len ≤ 1000000) (hbase : base ≤ w.heap.size) (hb : Below base w0 w) (i : Nat) :
    ∃ a2 c2 w2, (appendB #[48, 48] 48 #[.slice a len c, .slice (some ⟨w.heap.size, 0, none⟩) 1 1]).run Tryd.prog (w.alloc (.cells #[.int .i64 (i : Int)] 3)) = .ok (.slice a2 (len + 1) c2) w2 ∧
      w2.ownsRow base 3 1 (.slice a2 (len + 1) c2) (len + 1) (nats (l ++ [i])) ∧ Below base w0 w2 ∧ base ≤ w2.heap.size := by
  have ha : (w.alloc (.cells #[.int .i64 (i : Int)] 3)).heap.size = w.heap.size + 1 := by simp
  obtain ⟨a2, c2, w2, hr2, hown2, hgr⟩ := run_append1 (P := Tryd.prog) base (t := 48) (bytes := 8) (z := .int .i64 0) 48 Tryd.underlying48 info_int rfl (hown.alloc (.cells #[.int .i64 (i : Int)] 3)) (a2 := some ⟨w.heap.size, 0, none⟩) (c2 := 1) (m := 1) (news := [.int .i64 (i : Int)]) rfl
    (.inr ⟨_, rfl, fun j u hu => by rw [Addr.add_lit, Nat.zero_add, (Blk.new _ _ _).cell]; simpa using hu⟩) (by simp) (by simp [Value.oneCell']) (by omega) (by omega) (by omega)
  have hb2 := (hb.alloc hbase (.cells #[.int .i64 (i : Int)] 3)).grown hgr (by omega) (fun j hj => (hown.lt j hj).1)
  refine ⟨a2, c2, w2, hr2, by rw [nats_append]; exact hown2, hb2, ?_⟩
  have := hgr.size
  omega

set_option maxHeartbeats 1000000 in
set_option linter.unusedSimpArgs false in
theorem list_calls (x : BitVec 64) (w0 : World) : Ret Tryd.prog 40 #[.int .u64 (uv x)] w0 fun v w' => ∃ a c, v = .slice a (WM.listM x).length c ∧ VsIn w' a (nats (WM.listM x)) c ∧ Below w0.heap.size w0 w' := by
  have bel0 := Below.refl w0.heap.size w0
  obtain ⟨n, hn⟩ : ∃ n : Nat, WM.blocksI (WM.classM x) = n := by
    rw [WM.cR_class, WM.blocksI_nat]; exact ⟨_, rfl⟩
  have hn16 : n ≤ 16 := by
    rw [WM.cR_class, WM.blocksI_nat] at hn; have := WM.bl_le (WM.cR x); omega
  have hlist : WM.listM x = lstK (fun (i : Nat) => WM.hasM x i) n := by
    unfold WM.listM lstK; rw [WM.cR_class] at hn ⊢; rw [WM.blocksI_nat] at hn; congr 2; rw [Int.toNat_natCast]; omega
  refine ret_of (args := [_]) _ Tryd.func40 rfl Tryd.ntmps40 (by simp) ?_
  simp -implicitDefEqProofs [go_sem]
  refine callE_of (class_calls x w0) ?_
  rintro v w1 ⟨rfl, b1⟩
  have bel1 := bel0.trans (b1.mono bel0.size)
  simp -implicitDefEqProofs [go_sem]
  refine callE_of (blocks_calls _ w1) ?_
  rintro v w2 ⟨rfl, rfl⟩
  rw [hn]
  simp -implicitDefEqProofs [go_sem]
  refine wpE_loop (fun e' w' => ∃ (k len : Nat) (a : Option Addr) (c : Nat), k ≤ n ∧ e' 0 = .int .u64 (uv x) ∧ e' 3 = .slice a len c ∧ e' 7 = .int .i64 n ∧ e' 8 = .int .i64 k ∧ len = (lstK (fun (i : Nat) => WM.hasM x i) k).length ∧
    w'.ownsRow w0.heap.size 3 1 (.slice a len c) len (nats (lstK (fun (i : Nat) => WM.hasM x i) k)) ∧ Below w0.heap.size w0 w' ∧ w0.heap.size ≤ w'.heap.size) (fun e' _ => n - (intOf (e' 8)).toNat) ?_ ?_
  · refine ⟨0, 0, none, 0, by omega, ?_⟩
    simp -implicitDefEqProofs [go_sem, lstK_zero]
    exact ⟨World.ownsRow_nil _ _ _ _, bel1, bel1.size⟩
  · rintro e' w' ⟨k, len, a, c, hk, h0, h3, h7, h8, hlen, hown, bel, hsz⟩
    have hl16 : len ≤ 16 := by rw [hlen]; have := filter_len (fun (i : Nat) => WM.hasM x i) k; omega
    by_cases hlt : k < n
    · have hlt' : (k : Int) < n := by omega
      have hw := IntWalk.i64_in ((k : Int) + 1) (by omega)
      have hfs := filter_succ (fun (i : Nat) => WM.hasM x i) k
      simp -implicitDefEqProofs [go_sem, h0, h3, h7, h8, hlt, hlt']
      refine callE_of (has_calls' x k w') ?_
      rintro v w3 ⟨rfl, b3⟩
      have bel3 := bel.trans (b3.mono hsz)
      have hown3 := ownsRow_next hown b3
      cases hh : WM.hasM x k
      · rw [hh] at hfs
        simp only [Bool.false_eq_true, if_false, List.append_nil] at hfs
        simp -implicitDefEqProofs [go_sem, h3, h8, hw]
        refine goE_round ⟨k + 1, len, a, c, by omega, ?_⟩ ?_
        · simp -implicitDefEqProofs [go_sem, h0, h3, h7]
          exact ⟨by rw [hfs]; exact hlen, by rw [hfs]; exact hown3, bel3, by have := b3.size; omega⟩
        · simp -implicitDefEqProofs [go_sem, intOf, h8]; omega
      · rw [hh] at hfs
        simp only [if_true] at hfs
        obtain ⟨a2, c2, w4, hr4, hown4, bel4, hsz4⟩ := push_nat w0.heap.size hown3 (by omega) (by have := b3.size; omega) bel3 k
        simp -implicitDefEqProofs [go_sem, h0, h3, h7, h8, hr4, hw]
        refine goE_round ⟨k + 1, len + 1, a2, c2, by omega, ?_⟩ ?_
        · simp -implicitDefEqProofs [go_sem, h0, h7]
          exact ⟨by rw [hfs]; simp [hlen], by rw [hfs]; exact hown4, bel4, hsz4⟩
        · simp -implicitDefEqProofs [go_sem, intOf, h8]; omega
    · have hk' : k = n := by omega
      subst hk'
      rw [← hlist] at hlen hown
      simp -implicitDefEqProofs [go_sem, h0, h3, h7, h8]
      refine body_tmp 2 rfl ?_
      simp -implicitDefEqProofs [go_sem]
      exact ⟨a, c, ⟨rfl, hlen, rfl⟩, owns_vsIn (by rw [nats_length]; exact hlen.symm) hown, bel⟩

/-! ### Next, Take, Drop -/
end Go.Proofs.YtejpophjiinijaaDoor
