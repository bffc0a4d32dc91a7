/- The document's device: now, in, done, with. -/
import Derived.Test.YtkljlgahdlgmpaaNvmRef
namespace Go.Proofs.Ytkljlgahdlgmpaa
set_option linter.unusedVariables false
set_option linter.unusedSimpArgs false
open Go Go.RowKit

set_option maxRecDepth 20000 in
theorem rnow_calls (F : Nat → Prop) (lv : Value) (bs : List (List (BitVec 8))) (m : Int) (w0 : World) (hl : LstV w0 F lv bs) (hn : bs.length ≤ 1000000) :
    Ret Try.prog 54 #[.agg #[lv, .int .i64 m]] w0 fun v w' => ContV w' F v (bs.getD (bs.length - 1) []) ∧ Below w0.heap.size w0 w' := by
  have bel0 := Below.refl w0.heap.size w0
  have hl0 := hl
  obtain ⟨g, o, c, vs, rfl, hF, h0, hvl, hin, hc⟩ := hl
  refine ret_of (args := [_]) _ Try.func54 rfl Try.ntmps54 (by simp) ?_
  simp -implicitDefEqProofs [go_sem]
  generalize hw1 : World.alloc w0 _ = w1 at *
  obtain ⟨hB1, b1, sz1⟩ := new_facts hw1
  have bel1 := bel0.trans (b1.mono bel0.size)
  have hin1 := hin.next b1
  have hw := IntWalk.i64_in ((bs.length : Int) - 1) (by omega)
  have e1 : ((bs.length : Int) - 1).toNat = bs.length - 1 := by omega
  have e2 : (0 : Int) ≤ (bs.length : Int) - 1 := by omega
  have e2' : (1 : Int) ≤ (bs.length : Int) := by omega
  have e3 : (bs.length : Int) - 1 < bs.length := by omega
  have hg := (hin1.at_).cell (i := bs.length - 1) (by omega)
  obtain ⟨b, o', hbo, hcell⟩ := hg
  simp only [Option.some.injEq, Addr.mk.injEq, and_true] at hbo
  obtain ⟨rfl, rfl⟩ := hbo
  have hv := hc (bs.length - 1) (by omega)
  have hget : vs.getD (bs.length - 1) undef = vs[bs.length - 1]'(by omega) := by simp [List.getD, show bs.length - 1 < vs.length by omega]
  rw [hget] at hv
  generalize vs[bs.length - 1]'(by omega) = u at *
  simp -implicitDefEqProofs [go_sem, hB1.cell, hw, e1, e2, e2', e3, hcell]
  refine body_tmp 2 rfl ?_
  simp -implicitDefEqProofs [go_sem]
  exact ⟨hv.next b1, bel1⟩
theorem rin_calls (cv : Value) (rs : List RL) (F : Nat → Prop) (dn : Bool) (lf st off : Int) (w0 : World) (hc : CellsV w0 F cv rs) (hn : rs.length ≤ 1100) (ho : I64 off) :
    Ret Try.prog 52 #[.agg (devC cv dn lf st), .int .i64 off] w0 fun v w' => v = .bool (decide (0 ≤ off ∧ off % 8 = 0 ∧ off ≤ 64 * rs.length - 8)) ∧ Below w0.heap.size w0 w' := by
  have bel0 := Below.refl w0.heap.size w0
  obtain ⟨g, o, c, xs, rfl, hF, h0, hxl, hin, hle, hmx, hl⟩ := hc
  refine ret_of (args := [_, _]) _ Try.func52 rfl Try.ntmps52 (by simp) ?_
  simp -implicitDefEqProofs [go_sem, devC]
  generalize hw1 : World.alloc w0 _ = w1 at *
  obtain ⟨hB1, b1, sz1⟩ := new_facts hw1
  have bel1 := bel0.trans (b1.mono bel0.size)
  have hw1 := IntWalk.i64_in (64 * (rs.length : Int)) (by omega)
  have hw2 := IntWalk.i64_in (64 * (rs.length : Int) - 8) (by omega)
  by_cases h1 : 0 ≤ off
  · have ht : off.tmod 8 = off % 8 := Int.tmod_eq_emod_of_nonneg h1
    by_cases h2 : off % 8 = 0
    · simp -implicitDefEqProofs [go_sem, hB1.cell, h1, ht, h2, hw1, hw2]
      refine body_tmp 4 rfl ?_
      simp -implicitDefEqProofs [go_sem, h1, h2]
      exact bel1
    · have h2' : (off % 8 == 0) = false := by rw [beq_eq_false_iff_ne]; exact h2
      simp -implicitDefEqProofs [go_sem, hB1.cell, h1, ht, h2, h2', hw1, hw2]
      refine body_tmp 4 rfl ?_
      simp -implicitDefEqProofs [go_sem, h1, h2]
      exact bel1
  · simp -implicitDefEqProofs [go_sem, hB1.cell, h1, hw1, hw2]
    refine body_tmp 4 rfl ?_
    simp -implicitDefEqProofs [go_sem, h1]
    exact bel1
theorem devC_one {cv : Value} (h : cv.oneCell' = true) (dn : Bool) (lf st : Int) : ∀ v ∈ (devC cv dn lf st).toList, v.oneCell' = true := by
  intro v hv; simp [devC] at hv; rcases hv with rfl | rfl | rfl | rfl <;> first | exact h | rfl
set_option linter.unusedSimpArgs false in
theorem rdone_calls (cv : Value) (D : NM.Dv) (w0 : World) (hcv : cv.oneCell' = true) (hdn : D.down = false) (hl : -1 ≤ D.left ∧ D.left ≤ 9223372036854775807) (hs : D.steps < 1099511627776) :
    Ret Try.prog 50 #[.agg (devC cv D.down D.left D.steps)] w0 fun v w' => v = .agg (devC cv D.done.down D.done.left D.done.steps) ∧ Below w0.heap.size w0 w' := by
  have bel0 := Below.refl w0.heap.size w0
  have hst := Try.underlying60
  have kw1 := IntWalk.i64_in ((D.steps : Int) + 1) (by omega)
  have kw2 := IntWalk.i64_in (D.left - 1) (by omega)
  refine ret_of (args := [_]) _ Try.func50 rfl Try.ntmps50 (by simp) ?_
  simp -implicitDefEqProofs [go_sem, devC]
  generalize hw1 : World.alloc w0 _ = w1 at *
  obtain ⟨hB1, b1, sz1⟩ := new_facts hw1
  have bel1 := bel0.trans (b1.mono bel0.size)
  generalize hw2 : World.alloc w1 _ = w2 at *
  obtain ⟨hB2, b2, sz2⟩ := new_facts hw2
  have bel2 := bel1.trans (b2.mono bel1.size)
  replace hB1 := hB1.next b2
  have hB2' := hB2
  rw [sz1] at hB2'
  by_cases h0 : 0 < D.left
  · have s2 := hB1.set 2 (.int .i64 (D.left - 1))
    have o2 := hB2'.setOther (a := ⟨w0.heap.size, 2, none⟩) (by simp) (.int .i64 (D.left - 1))
    by_cases h1 : D.left = 1
    · have hd : D.done = ⟨D.ls, true, D.left - 1, D.steps + 1⟩ := by simp [NM.Dv.done, h1]
      have hz : (D.left - 1 == 0) = true := by rw [beq_iff_eq]; omega
      have s1 := s2.set 1 (.bool true)
      have o1 := o2.setOther (a := ⟨w0.heap.size, 1, none⟩) (by simp) (.bool true)
      have hsA := stAll (P := Try.prog) (ty := 60) (cs := devC cv true (D.left - 1) (D.steps + 1)) o1 (rdevI _ _ _ _) rfl (devC_one hcv _ _ _)
      unfold devC at hsA
      simp -implicitDefEqProofs [go_sem, hB1.cell, hB1.thaw, kw1, kw2, h0, hz, ↓hsA]
      refine bodyCell1 2 rfl (by simp -implicitDefEqProofs [go_sem]) (o1.row _) hst rfl (rdevI _ _ _ _) ?_
      simp -implicitDefEqProofs [go_sem, hd, devC]
      exact Below.row ((bel2.setCell (by simp) _).setCell (by simp) _) (by omega) _
    · have hd : D.done = ⟨D.ls, false, D.left - 1, D.steps + 1⟩ := by simp [NM.Dv.done, h0]; omega
      have hz : (D.left - 1 == 0) = false := by rw [beq_eq_false_iff_ne]; omega
      have hsA := stAll (P := Try.prog) (ty := 60) (cs := devC cv D.down (D.left - 1) (D.steps + 1)) o2 (rdevI _ _ _ _) rfl (devC_one hcv _ _ _)
      unfold devC at hsA
      simp -implicitDefEqProofs [go_sem, hB1.cell, hB1.thaw, kw1, kw2, h0, hz, ↓hsA]
      refine bodyCell1 2 rfl (by simp -implicitDefEqProofs [go_sem]) (o2.row _) hst rfl (rdevI _ _ _ _) ?_
      simp -implicitDefEqProofs [go_sem, hd, hdn, devC]
      exact Below.row (bel2.setCell (by simp) _) (by omega) _
  · have hd : D.done = ⟨D.ls, D.down, D.left, D.steps + 1⟩ := by simp [NM.Dv.done, h0]
    have hsA := stAll (P := Try.prog) (ty := 60) (cs := devC cv D.down D.left (D.steps + 1)) hB2' (rdevI _ _ _ _) rfl (devC_one hcv _ _ _)
    unfold devC at hsA
    simp -implicitDefEqProofs [go_sem, hB1.cell, hB1.thaw, kw1, kw2, h0, ↓hsA]
    refine bodyCell1 2 rfl (by simp -implicitDefEqProofs [go_sem]) (hB2'.row _) hst rfl (rdevI _ _ _ _) ?_
    simp -implicitDefEqProofs [go_sem, hd, devC]
    exact Below.row bel2 (by omega) _
end Go.Proofs.Ytkljlgahdlgmpaa
