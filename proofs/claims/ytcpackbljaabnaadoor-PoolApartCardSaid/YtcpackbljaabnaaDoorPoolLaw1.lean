/- PoolNobody: its walk. -/
import Derived.Test.YtcpackbljaabnaaDoorPoolAlive
import Derived.Test.YtcpackbljaabnaaDoorPoolWb
namespace Go.Proofs.YtcpackbljaabnaaDoor
set_option linter.unusedVariables false
set_option linter.unusedSimpArgs false
set_option maxRecDepth 100000
open Go Go.RowKit

theorem poolLines_calls (x : BitVec 8) (w : World) : Ret Tryd.prog 11 #[.int .u8 (uv x)] w fun v w' => v = .int .i64 ((3 + 16 * (1 + x.toNat % 4) : Nat) : Int) ∧ w' = w := by
  have h4 : (x % 4#8).toNat = x.toNat % 4 := by simp
  have k1 := IntWalk.i64_in (1 + uv (x % 4#8)) (by unfold uv; omega)
  have k2 := IntWalk.i64_in (16 * (1 + uv (x % 4#8))) (by unfold uv; omega)
  have k3 := IntWalk.i64_in (3 + 16 * (1 + uv (x % 4#8))) (by unfold uv; omega)
  have k4 : IntKind.i64.wrap (uv (x % 4#8)) = uv (x % 4#8) := IntWalk.i64_in _ (by unfold uv; omega)
  refine ret_of (args := [_]) _ Tryd.func11 rfl Tryd.ntmps11 (by simp) ?_
  simp -implicitDefEqProofs [go_sem, k1, k2, k3, k4]
  refine body_tmp 2 rfl ?_
  simp -implicitDefEqProofs [go_sem, k1, k2, k3, k4]
  unfold uv; omega
set_option maxHeartbeats 8000000 in
theorem poolNobody_walk (off c : Int) (w0 : World) (hF : Fours w0) (hT : Tabs w0) :
    Ret Tryd.prog 5 #[.int .i64 off, .int .i64 c] w0 fun v w' => v = .bool true ∧ Below w0.heap.size w0 w' := by
  have bel0 := Below.refl w0.heap.size w0
  refine ret_of (args := [_, _]) _ Tryd.func5 rfl Tryd.ntmps5 (by simp) ?_
  simp -implicitDefEqProofs [go_sem]
  refine callE_of (poolAlive_calls w0 hF hT) ?_
  rintro v w1 ⟨rfl, b1⟩
  have bel1 := bel0.trans (b1.mono bel0.size)
  simp -implicitDefEqProofs [go_sem]
  generalize hw2 : World.alloc w1 _ = w2 at *
  obtain ⟨hB2, b2, sz2⟩ := new_facts hw2
  have bel2 := bel1.trans (b2.mono bel1.size)
  generalize hw3 : World.alloc w2 _ = w3 at *
  obtain ⟨hB3, b3, sz3⟩ := new_facts hw3
  have bel3 := bel2.trans (b3.mono bel2.size)
  replace hB2 := hB2.next b3
  have nb : ∀ i : Nat, i < 2 → ∃ a, w3.cell? ⟨w2.heap.size, 0 + i, none⟩ = some a ∧ NoneP w3 a := by
    intro i hi
    have : i = 0 ∨ i = 1 := by omega
    rcases this with rfl | rfl
    · exact ⟨.pointer none, by rw [hB3.cell]; rfl, .inl rfl⟩
    · exact ⟨.pointer (some ⟨w1.heap.size, 0, none⟩), by rw [hB3.cell]; rfl, .inr ⟨_, _, rfl, hB2, rfl⟩⟩
  rw [← sz2]
  have hsh : ∀ w : World, (Instr.build 39 #[]).run Tryd.prog w = .ok (.agg (shapeC HM.none4)) w := fun _ => by kernel_rfl
  refine wpE_loop (fun e' w' => ∃ k : Nat, k ≤ 2 ∧ e' 0 = .int .i64 off ∧ e' 1 = .int .i64 c ∧ e' 13 = .slice (some ⟨w2.heap.size, 0, none⟩) 2 2 ∧ e' 14 = .int .i64 2 ∧ e' 15 = .int .i64 (k : Int) ∧ Below w3.heap.size w3 w') (fun e' _ => 2 - (intOf (e' 15)).toNat) ?_ ?_
  · refine ⟨0, by omega, ?_⟩
    simp -implicitDefEqProofs [go_sem]
    exact Below.refl _ _
  · rintro e' w4 ⟨k, hk, g0, g1, g13, g14, g15, bel⟩
    by_cases hlt : k < 2
    · have hlt' : (k : Int) < 2 := by omega
      have hwk := IntWalk.i64_in ((k : Int) + 1) (by omega)
      obtain ⟨a, hca, hna⟩ := nb k hlt
      rw [Nat.zero_add] at hca
      have hca := (bel.cell (p := ⟨_, _, none⟩) (World.block_lt_of_cell? w3 _ hca)).trans hca
      have hna := hna.next bel
      simp -implicitDefEqProofs [go_sem, g0, g1, g13, g14, g15, hlt, hlt', hca]
      refine callE_of (noneReserve_calls c w4 hna) ?_
      rintro v w5 ⟨rfl, rfl⟩
      simp -implicitDefEqProofs [go_sem, g0, g1]
      refine callE_of (noneTake_calls off w5 hna) ?_
      rintro v w6 ⟨rfl, rfl⟩
      simp -implicitDefEqProofs [go_sem, g0, g1]
      refine callE_of (noneDrop_calls off w6 hna) ?_
      rintro v w7 ⟨rfl, rfl⟩
      simp -implicitDefEqProofs [go_sem, g0, g1]
      refine callE_of (noneClass_calls off w7 hna) ?_
      rintro v w8 ⟨rfl, rfl⟩
      simp -implicitDefEqProofs [go_sem, g0, g1]
      refine callE_of (noneAll_calls w8 hna) ?_
      rintro v w9 ⟨rfl, rfl⟩
      simp -implicitDefEqProofs [go_sem, g0, g1]
      refine callE_of (noneHeld_calls w9 hna) ?_
      rintro v w10 ⟨rfl, rfl⟩
      simp -implicitDefEqProofs [go_sem, g0, g1]
      refine callE_of (noneShape_calls w10 hna) ?_
      rintro v w11 ⟨rfl, b11⟩
      simp -implicitDefEqProofs [go_sem, g0, g1, hsh, shapeC, HM.none4, g13, g14, g15, hwk]
      refine goE_round ⟨k + 1, by omega, ?_⟩ ?_
      · simp -implicitDefEqProofs [go_sem, g0, g1, g13, g14]
        exact bel.trans (b11.mono bel.size)
      · simp -implicitDefEqProofs [go_sem, intOf, g15, hwk]; omega
    · have hk' : k = 2 := by omega
      subst hk'
      simp -implicitDefEqProofs [go_sem, g0, g1, g13, g14, g15]
      refine body_tmp 4 rfl ?_
      simp -implicitDefEqProofs [go_sem]
      exact bel3.trans (bel.mono bel3.size)
end Go.Proofs.YtcpackbljaabnaaDoor
