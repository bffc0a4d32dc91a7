/- The shape of so many lines: its walk. -/
import Derived.Test.YtejpophjiinijaaDoorHeadMath
import Derived.Test.YtejpophjiinijaaDoorBase
import Derived.Test.YtejpophjiinijaaDoorCore
namespace Go.Proofs.YtejpophjiinijaaDoor
set_option linter.unusedVariables false
set_option linter.unusedSimpArgs false
set_option maxRecDepth 100000
open Go Go.RowKit

/-- A shape, as cells. -/
def shapeC (s : HM.Shape) : Array Value := #[.int .i64 s.lines, .int .i64 s.slabs, .int .i64 s.table, .int .i64 s.data]
theorem shapeC_one (s : HM.Shape) : ∀ v ∈ (shapeC s).toList, v.oneCell' = true := by
  intro v hv
  simp [shapeC] at hv
  rcases hv with rfl | rfl | rfl | rfl <;> rfl
theorem shapeI (s : HM.Shape) : (Tryd.prog.info? 86).map (·.size) = some (shapeC s).size := by kernel_rfl
theorem shapeI4 : (Tryd.prog.info? 86).map (·.size) = some 4 := by kernel_rfl
/-- A variable for a function, just made, filled. -/
theorem fn_new (w : World) (f : Nat) (z : Value) (t : TypeId) : (store ⟨w.heap.size, 0, none⟩ (.func (.func f) #[] #[])).run Tryd.prog (w.alloc (.cells #[z] t)) = .ok () (w.alloc (.cells #[.func (.func f) #[] #[]] t)) := by
  have hB := Blk.new w #[z] t
  rw [run_store _ _ _ _ _ rfl]
  simp [stored, hB.cell, hB.thaw]
  have h : (w.heap.push (Obj.cells #[z] t)).modify w.heap.size (fun
      | .cells c elem frozen => .cells (c.setIfInBounds 0 (.func (.func f) #[] #[])) elem frozen
      | o => o) = w.heap.push (Obj.cells #[.func (.func f) #[] #[]] t) := by
    apply Array.ext_getElem?
    intro i
    rw [Array.getElem?_modify, Array.getElem?_push, Array.getElem?_push]
    by_cases h : i = w.heap.size
    · subst h; simp
    · rw [if_neg (fun e => h e.symm), if_neg h, if_neg h]
  exact congrArg (fun h => World.mk h w.tape w.drawn w.os w.output) h
section
set_option linter.unusedSimpArgs false
theorem ahead_calls (s : Nat) (w : World) (hs : s ≤ 100) : Ret Tryd.prog 99 #[.int .i64 s] w fun v w' => v = .int .i64 ((2 + (s + 7) / 8 : Nat) : Int) ∧ w' = w := by
  have h1 := IntWalk.i64_in ((s : Int) + 8) (by omega)
  have h2 := IntWalk.i64_in ((s : Int) + 8 - 1) (by omega)
  have h3 := IntWalk.i64_in (((s : Int) + 8 - 1).tdiv 8) (by rw [Int.tdiv_eq_ediv_of_nonneg (by omega)]; omega)
  have e3 : ((s : Int) + 8 - 1).tdiv 8 = ((s + 7) / 8 : Nat) := by rw [Int.tdiv_eq_ediv_of_nonneg (by omega)]; omega
  have h4 := IntWalk.i64_in (2 + (((s + 7) / 8 : Nat) : Int)) (by omega)
  have h5 := IntWalk.i64_in (((s : Int) + 7) / 8) (by omega)
  have h6 := IntWalk.i64_in (2 + ((s : Int) + 7) / 8) (by omega)
  refine ret_of (args := [_]) _ Tryd.func99 rfl Tryd.ntmps99 (by simp) ?_
  simp -implicitDefEqProofs [go_sem, h1, h2, h3, e3, h4]
  refine body_tmp 2 rfl ?_
  simp -implicitDefEqProofs [go_sem, h5, h6]
theorem need_calls (s b : Nat) (w : World) (hs : s ≤ 100) (hb : Blk w b #[.func (.func 99) #[] #[]] 78) : Ret Tryd.prog 100 #[.int .i64 s, .pointer (some ⟨b, 0, none⟩)] w fun v w' => v = .int .i64 (HM.need s : Int) ∧ w' = w := by
  have h5 := IntWalk.i64_in (16 * (s : Int)) (by omega)
  have h6 := IntWalk.i64_in (2 + ((s : Int) + 7) / 8 + 16 * (s : Int)) (by omega)
  refine ret_of (args := [_, _]) _ Tryd.func100 rfl Tryd.ntmps100 (by simp) ?_
  simp -implicitDefEqProofs [go_sem, hb.cell]
  refine callE_of (ahead_calls s w hs) ?_
  rintro v w' ⟨rfl, rfl⟩
  simp -implicitDefEqProofs [go_sem]
  refine body_tmp 3 rfl ?_
  simp -implicitDefEqProofs [go_sem, h5, h6, HM.need]
theorem slabs_int {n : Int} (h : n ≤ 1024) {s : Nat} (h1 : s = 0 ∨ (HM.need s : Int) ≤ n) (h2 : n < HM.need (s + 1)) : HM.slabs n = s := by
  by_cases hn : n < 19
  · rw [HM.slabs_neg hn]
    rcases h1 with h1 | h1
    · exact h1.symm
    · unfold HM.need at h1; omega
  · obtain ⟨m, rfl⟩ := Int.eq_ofNat_of_zero_le (by omega : 0 ≤ n)
    exact HM.slabs_eq (by omega) (by omega) (by omega)
set_option maxHeartbeats 1000000 in
theorem headOf_calls (n : Int) (w0 : World) (hn : I64 n) : Ret Tryd.prog 82 #[.int .i64 n] w0 fun v w' => v = .tuple #[.agg (shapeC (HM.of n).1), .bool (HM.of n).2] ∧ Below w0.heap.size w0 w' := by
  have bel0 := Below.refl w0.heap.size w0
  have hst : Tryd.prog.underlying 86 = _ := Tryd.underlying86
  refine ret_of (args := [_]) _ Tryd.func82 rfl Tryd.ntmps82 (by simp) ?_
  simp -implicitDefEqProofs [go_sem]
  generalize hw1 : World.alloc w0 _ = w1 at *
  obtain ⟨hB1, b1, sz1⟩ := new_facts hw1
  have bel1 := bel0.trans (b1.mono bel0.size)
  have hz := stAll (P := Tryd.prog) (cs := #[.int .i64 0, .int .i64 0, .int .i64 0, .int .i64 0]) hB1 shapeI4 rfl (shapeC_one HM.none4)
  have hBz : Blk (w1.setRow w0.heap.size #[.int .i64 0, .int .i64 0, .int .i64 0, .int .i64 0]) w0.heap.size #[.int .i64 0, .int .i64 0, .int .i64 0, .int .i64 0] 86 := hB1.row _
  by_cases hbig : 1024 < n
  · simp -implicitDefEqProofs [go_sem, hbig, ↓hz]
    refine bodyCell 2 3 rfl (by simp -implicitDefEqProofs [go_sem]) hBz hst rfl shapeI4 ?_
    have e : HM.of n = (HM.none4, false) := by unfold HM.of; rw [if_pos hbig]
    rw [e]
    simp -implicitDefEqProofs [go_sem, shapeC, HM.none4]
    exact Below.row bel1 (Nat.le_refl _) _
  · simp -implicitDefEqProofs [go_sem, hbig, fn_new]
    generalize hw2 : World.alloc w1 _ = w2 at *
    obtain ⟨hB2, b2, sz2⟩ := new_facts hw2
    have bel2 := bel1.trans (b2.mono bel1.size)
    replace hB1 := hB1.next b2
    refine wpE_loop (fun e' w' => w' = w2 ∧ ∃ k : Nat, (k = 0 ∨ (HM.need k : Int) ≤ n) ∧ e' 0 = .int .i64 n ∧ e' 2 = .pointer (some ⟨w0.heap.size, 0, none⟩) ∧ e' 4 = .pointer (some ⟨w1.heap.size, 0, none⟩) ∧
      e' 5 = .func (.func 100) #[] #[.pointer (some ⟨w1.heap.size, 0, none⟩)] ∧ e' 6 = .int .i64 k) (fun e' _ => 64 - (intOf (e' 6)).toNat) ?_ ?_
    · refine ⟨rfl, 0, .inl rfl, ?_⟩
      simp -implicitDefEqProofs [go_sem]
    · rintro e' w' ⟨rfl, k, hk, g0, g2, g4, g5, g6⟩
      have hk63 : k ≤ 63 := by
        rcases hk with hk | hk
        · omega
        · unfold HM.need at hk; omega
      have hw1 := IntWalk.i64_in ((k : Int) + 1) (by omega)
      simp -implicitDefEqProofs [go_sem, g0, g2, g4, g5, g6, hw1]
      refine callE_of (need_calls (k + 1) w1.heap.size w' (by omega) hB2) ?_
      rintro v w3 ⟨rfl, rfl⟩
      by_cases hle : (HM.need (k + 1) : Int) ≤ n
      · simp -implicitDefEqProofs [go_sem, g0, g2, g4, g5, g6, hw1, hle]
        refine goE_round ⟨rfl, k + 1, .inr hle, ?_⟩ ?_
        · simp -implicitDefEqProofs [go_sem, g0, g2, g4, g5]
        · simp -implicitDefEqProofs [go_sem, intOf, g6]; omega
      · have hs : HM.slabs n = k := slabs_int (by omega) hk (by omega)
        by_cases h0 : k = 0
        · subst h0
          have hz := stAll (P := Tryd.prog) (cs := #[.int .i64 0, .int .i64 0, .int .i64 0, .int .i64 0]) hB1 shapeI4 rfl (shapeC_one HM.none4)
          have hBz : Blk (w3.setRow w0.heap.size #[.int .i64 0, .int .i64 0, .int .i64 0, .int .i64 0]) w0.heap.size #[.int .i64 0, .int .i64 0, .int .i64 0, .int .i64 0] 86 := hB1.row _
          simp -implicitDefEqProofs [go_sem, g0, g2, g4, g5, g6, hle, ↓hz]
          refine bodyCell 2 3 rfl (by simp -implicitDefEqProofs [go_sem, g2]) hBz hst rfl shapeI4 ?_
          have e : HM.of n = (HM.none4, false) := by unfold HM.of; rw [if_neg hbig, if_pos hs]
          rw [e]
          simp -implicitDefEqProofs [go_sem, shapeC, HM.none4]
          exact Below.row bel2 (Nat.le_refl _) _
        · have h0' : ((k : Int) == 0) = false := by rw [beq_eq_false_iff_ne]; omega
          simp -implicitDefEqProofs [go_sem, g0, g2, g4, g5, g6, hle, h0, h0', hB2.cell]
          refine callE_of (ahead_calls k w3 (by omega)) ?_
          rintro v w4 ⟨rfl, rfl⟩
          have h5 := IntWalk.i64_in ((2 + ((k : Int) + 7) / 8) * 64) (by omega)
          have e := shapeI4
          have hz := stAll (P := Tryd.prog) (cs := #[.int .i64 n, .int .i64 k, .int .i64 128, .int .i64 ((2 + ((k : Int) + 7) / 8) * 64)]) hB1 shapeI4 rfl (shapeC_one ⟨n, k, 128, (2 + ((k : Int) + 7) / 8) * 64⟩)
          have hBz := hB1.row #[.int .i64 n, .int .i64 k, .int .i64 128, .int .i64 ((2 + ((k : Int) + 7) / 8) * 64)]
          simp -implicitDefEqProofs [go_sem, g0, g2, g4, g5, g6, h5, ↓hz]
          refine bodyCell 2 3 rfl (by simp -implicitDefEqProofs [go_sem, g2]) hBz hst rfl shapeI4 ?_
          have e : HM.of n = (HM.shapeOf n, true) := by unfold HM.of; rw [if_neg hbig, if_neg (by omega)]
          rw [e]
          refine ⟨?_, Below.row bel2 (Nat.le_refl _) _⟩
          simp -implicitDefEqProofs [go_sem, shapeC, HM.shapeOf, hs]
          omega
end
end Go.Proofs.YtejpophjiinijaaDoor
