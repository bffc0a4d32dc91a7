/- HeadFits, HeadRises: walks. -/
import Derived.Test.YtfppphmlepdopaaDoorHeadAlive
namespace Go.Proofs.YtfppphmlepdopaaDoor
set_option linter.unusedVariables false
set_option linter.unusedSimpArgs false
open Go Go.RowKit

theorem umod_nat (x : BitVec 16) (m : BitVec 16) (hm : 0 < m.toNat) : ∃ n : Nat, uv (x % m) = n ∧ n < m.toNat := ⟨(x % m).toNat, rfl, by rw [BitVec.toNat_umod]; exact Nat.mod_lt _ hm⟩
section
set_option linter.unusedSimpArgs false
set_option maxHeartbeats 2000000 in
theorem headFits_walk (x : BitVec 16) (w0 : World) (hF : Fours w0) : Ret Tryd.prog 4 #[.int .u16 (uv x)] w0 fun v w' => v = .bool true ∧ Below w0.heap.size w0 w' := by
  have bel0 := Below.refl w0.heap.size w0
  have hst : Tryd.prog.underlying 25 = _ := Tryd.underlying25
  obtain ⟨n, hn, hlt⟩ := umod_nat x 1100#16 (by decide)
  replace hlt : n < 1100 := hlt
  refine ret_of (args := [_]) _ Tryd.func4 rfl Tryd.ntmps4 (by simp) ?_
  simp -implicitDefEqProofs [go_sem]
  refine callE_of (alive_calls w0 hF) ?_
  rintro v w1 ⟨rfl, b1⟩
  have bel1 := bel0.trans (b1.mono bel0.size)
  have hwn := IntWalk.i64_in (n : Int) (by omega)
  simp -implicitDefEqProofs [go_sem, hn, hwn]
  refine callE_of (headOf_calls n w1 (by unfold I64; omega)) ?_
  rintro v w2 ⟨rfl, b2⟩
  have bel2 := bel1.trans (b2.mono bel1.size)
  simp -implicitDefEqProofs [go_sem, ↓stShape (HM.of n).1]
  generalize hw3 : World.alloc w2 _ = w3 at *
  obtain ⟨hB3, b3, sz3⟩ := new_facts hw3
  have bel3 := bel2.trans (b3.mono bel2.size)
  cases hb : (HM.of (n : Int)).2
  · have hs := HM.of_small hb
    by_cases h19 : (n : Int) < 19
    · simp -implicitDefEqProofs [go_sem, h19, hn, hwn]
      refine body_tmp 2 rfl ?_
      simp -implicitDefEqProofs [go_sem]
      exact bel3
    · have h1024 : (1024 : Int) < n := by omega
      simp -implicitDefEqProofs [go_sem, h19, h1024]
      refine body_tmp 2 rfl ?_
      simp -implicitDefEqProofs [go_sem]
      exact bel3
  obtain ⟨k1, k2, k3⟩ := HM.shape_fits hb
  obtain ⟨k4, k5, k6, k7⟩ := HM.of_some hb
  have k8 := HM.slabs_le (n := n) (by omega)
  have hw1 := IntWalk.i64_in ((HM.slabs n : Int) + 1) (by omega)
  rw [k6] at hB3
  have s0 : (shapeC (HM.shapeOf n))[0]? = some (.int .i64 n) := rfl
  have s1 : (shapeC (HM.shapeOf n))[1]? = some (.int .i64 (HM.slabs n)) := rfl
  have s2 : (shapeC (HM.shapeOf n))[2]? = some (.int .i64 128) := rfl
  obtain ⟨d, hd⟩ : ∃ d, d = (HM.shapeOf n).data := ⟨_, rfl⟩
  have s3 : (shapeC (HM.shapeOf n))[3]? = some (.int .i64 d) := by rw [hd]; rfl
  rw [← hd] at k1 k2
  have hd64 : d % 64 = 0 := by rw [hd]; unfold HM.shapeOf; dsimp only; omega
  generalize HM.slabs (n : Int) = s at *
  have v1 := IntWalk.i64_in (8 * (s : Int)) (by omega)
  have v2 := IntWalk.i64_in (128 + 8 * (s : Int)) (by omega)
  have v3 := IntWalk.i64_in (1024 * (s : Int)) (by omega)
  have v4 := IntWalk.i64_in (d + 1024 * (s : Int)) (by omega)
  have v5 := IntWalk.i64_in (64 * (n : Int)) (by omega)
  have v6 := IntWalk.i64_in ((s : Int) + 1 + 7) (by omega)
  have v7 := IntWalk.i64_in (((s : Int) + 1 + 7) / 8) (by omega)
  have e7 : ((s : Int) + 1 + 7).tdiv 8 = ((s : Int) + 1 + 7) / 8 := by rw [Int.tdiv_eq_ediv_of_nonneg (by omega)]
  have v8 := IntWalk.i64_in (2 + ((s : Int) + 1 + 7) / 8) (by omega)
  have v9 := IntWalk.i64_in (64 * (2 + ((s : Int) + 1 + 7) / 8)) (by omega)
  have v10 := IntWalk.i64_in (1024 * ((s : Int) + 1)) (by omega)
  have v11 := IntWalk.i64_in (64 * (2 + ((s : Int) + 1 + 7) / 8) + 1024 * ((s : Int) + 1)) (by omega)
  have t1 : 128 + 8 * (s : Int) ≤ d := by omega
  have t2 : d.tmod 64 = 0 := by rw [Int.tmod_eq_emod_of_nonneg (by omega)]; exact hd64
  have t3 : 64 * (n : Int) < 64 * (2 + ((s : Int) + 1 + 7) / 8) + 1024 * ((s : Int) + 1) := by omega
  simp -implicitDefEqProofs [go_sem, hB3.cell, s0, s1, s2, s3, hw1, k6, v1, v2, v3, v4, v5, v6, v7, e7, v8, v9, v10, v11, t1, t2, hd64, k2, t3]
  refine body_tmp 2 rfl ?_
  simp -implicitDefEqProofs [go_sem]
  exact bel3
set_option maxHeartbeats 2000000 in
theorem headRises_walk (x : BitVec 16) (w0 : World) (hF : Fours w0) : Ret Tryd.prog 6 #[.int .u16 (uv x)] w0 fun v w' => v = .bool true ∧ Below w0.heap.size w0 w' := by
  have bel0 := Below.refl w0.heap.size w0
  have hst : Tryd.prog.underlying 25 = _ := Tryd.underlying25
  obtain ⟨n, hn, hlt⟩ := umod_nat x 1000#16 (by decide)
  replace hlt : n < 1000 := hlt
  obtain ⟨s1, i1⟩ := HM.of_slabs (n := n) (by omega)
  obtain ⟨s2, i2⟩ := HM.of_slabs (n := n + 1) (by omega)
  obtain ⟨s3, i3⟩ := HM.of_slabs (n := n + 17) (by omega)
  have k1 := HM.slabs_step (n := n) (by omega)
  have k2 := HM.slabs_more (n := n) (by omega)
  have e1 : ((n + 1 : Nat) : Int) = (n : Int) + 1 := by omega
  have e17 : ((n + 17 : Nat) : Int) = (n : Int) + 17 := by omega
  rw [e1] at s2 i2 k1
  rw [e17] at s3 i3 k2
  have hle := HM.slabs_le (n := n) (by omega)
  refine ret_of (args := [_]) _ Tryd.func6 rfl Tryd.ntmps6 (by simp) ?_
  simp -implicitDefEqProofs [go_sem]
  refine callE_of (alive_calls w0 hF) ?_
  rintro v w1 ⟨rfl, b1⟩
  have bel1 := bel0.trans (b1.mono bel0.size)
  have hwn := IntWalk.i64_in (n : Int) (by omega)
  have hwn1 := IntWalk.i64_in ((n : Int) + 1) (by omega)
  have hwn17 := IntWalk.i64_in ((n : Int) + 17) (by omega)
  simp -implicitDefEqProofs [go_sem, hn, hwn]
  refine callE_of (headOf_calls n w1 (by unfold I64; omega)) ?_
  rintro v w2 ⟨rfl, b2⟩
  have bel2 := bel1.trans (b2.mono bel1.size)
  simp -implicitDefEqProofs [go_sem, ↓stShape (HM.of n).1]
  generalize hw3 : World.alloc w2 _ = w3 at *
  obtain ⟨hB3, b3, sz3⟩ := new_facts hw3
  have bel3 := bel2.trans (b3.mono bel2.size)
  simp -implicitDefEqProofs [go_sem, hwn1]
  refine callE_of (headOf_calls ((n : Int) + 1) w3 (by unfold I64; omega)) ?_
  rintro v w4 ⟨rfl, b4⟩
  have bel4 := bel3.trans (b4.mono bel3.size)
  replace hB3 := hB3.next b4
  simp -implicitDefEqProofs [go_sem, ↓stShape (HM.of ((n : Int) + 1)).1]
  generalize hw5 : World.alloc w4 _ = w5 at *
  obtain ⟨hB5, b5, sz5⟩ := new_facts hw5
  have bel5 := bel4.trans (b5.mono bel4.size)
  replace hB3 := hB3.next b5
  have htoo : (HM.of (n : Int)).2 = true → (HM.of ((n : Int) + 1)).2 = true := fun h => i2.2 (by have := i1.1 h; omega)
  have c1 := hB3.cell 1
  have c2 := hB5.cell 1
  rw [shapeC_1, s1] at c1
  rw [shapeC_1, s2] at c2
  have q1 : ¬ ((HM.slabs ((n : Int) + 1) : Nat) : Int) < (HM.slabs (n : Int) : Nat) := by omega
  have q2 : ¬ ((HM.slabs (n : Int) : Nat) : Int) + 1 < (HM.slabs ((n : Int) + 1) : Nat) := by omega
  have hw1 := IntWalk.i64_in ((HM.slabs (n : Int) : Nat) + 1 : Int) (by omega)
  cases hb : (HM.of (n : Int)).2
  · simp -implicitDefEqProofs [go_sem, c1, c2, q1, q2, hw1, hwn17]
    refine callE_of (headOf_calls ((n : Int) + 17) w5 (by unfold I64; omega)) ?_
    rintro v w6 ⟨rfl, b6⟩
    have bel6 := bel5.trans (b6.mono bel5.size)
    replace hB3 := hB3.next b6
    simp -implicitDefEqProofs [go_sem, ↓stShape (HM.of ((n : Int) + 17)).1]
    generalize hw7 : World.alloc w6 _ = w7 at *
    obtain ⟨hB7, b7, sz7⟩ := new_facts hw7
    have bel7 := bel6.trans (b7.mono bel6.size)
    replace hB3 := hB3.next b7
    cases hl : (HM.of ((n : Int) + 17)).2
    · simp -implicitDefEqProofs [go_sem]
      refine body_tmp 2 rfl ?_
      simp -implicitDefEqProofs [go_sem]
      exact bel7
    · simp -implicitDefEqProofs [go_sem]
      refine body_tmp 2 rfl ?_
      simp -implicitDefEqProofs [go_sem]
      exact bel7
  · simp -implicitDefEqProofs [go_sem, htoo hb, c1, c2, q1, q2, hw1, hwn17]
    refine callE_of (headOf_calls ((n : Int) + 17) w5 (by unfold I64; omega)) ?_
    rintro v w6 ⟨rfl, b6⟩
    have bel6 := bel5.trans (b6.mono bel5.size)
    replace hB3 := hB3.next b6
    simp -implicitDefEqProofs [go_sem, ↓stShape (HM.of ((n : Int) + 17)).1]
    generalize hw7 : World.alloc w6 _ = w7 at *
    obtain ⟨hB7, b7, sz7⟩ := new_facts hw7
    have bel7 := bel6.trans (b7.mono bel6.size)
    replace hB3 := hB3.next b7
    cases hl : (HM.of ((n : Int) + 17)).2
    · simp -implicitDefEqProofs [go_sem]
      refine body_tmp 2 rfl ?_
      simp -implicitDefEqProofs [go_sem]
      exact bel7
    · have c3 := hB7.cell 1
      rw [shapeC_1, s3] at c3
      have c1' := hB3.cell 1
      rw [shapeC_1, s1] at c1'
      have q3 : ((HM.slabs (n : Int) : Nat) : Int) + 1 ≤ (HM.slabs ((n : Int) + 17) : Nat) := by have := k2 (i1.1 hb); omega
      simp -implicitDefEqProofs [go_sem, c1', c3, q3, hw1]
      refine body_tmp 2 rfl ?_
      simp -implicitDefEqProofs [go_sem]
      exact bel7
end
end Go.Proofs.YtfppphmlepdopaaDoor
