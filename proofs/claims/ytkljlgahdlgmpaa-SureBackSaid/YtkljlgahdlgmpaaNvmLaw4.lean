/- NvmNobody: its walk. -/
import Derived.Test.YtkljlgahdlgmpaaNvmLaw1
namespace Go.Proofs.Ytkljlgahdlgmpaa
open Go Go.RowKit

/-- A device that no call made. -/
def Nobody (w : World) (a : Option Addr) : Prop := a = none ∨ ∃ p, a = some ⟨p, 0, none⟩ ∧ Blk w p #[.slice none 0 0, .bool false, .int .i64 0, .int .i64 0] 53
theorem Nobody.next {w w' : World} {a : Option Addr} (h : Nobody w a) (hb : Below w.heap.size w w') : Nobody w' a := by
  rcases h with h | ⟨p, h, hB⟩
  · exact .inl h
  · exact .inr ⟨p, h, hB.next hb⟩
section
variable {a : Option Addr} (w : World) (h : Nobody w a)
set_option linter.unusedSimpArgs false
include h
theorem size_nb : Ret Try.prog 26 #[.pointer a] w fun v w' => v = .int .i64 0 ∧ w' = w := by
  refine ret_of (args := [_]) _ Try.func26 rfl Try.ntmps26 (by simp) ?_
  rcases h with rfl | ⟨p, rfl, hB⟩
  · simp -implicitDefEqProofs [go_sem]
    refine body_tmp 2 rfl ?_
    simp -implicitDefEqProofs [go_sem]
  · have hw : IntKind.i64.wrap 0 = 0 := by decide
    simp -implicitDefEqProofs [go_sem, hB.cell, hw]
    refine body_tmp 2 rfl ?_
    simp -implicitDefEqProofs [go_sem]
theorem ask_nb (off each : Int) : Ret Try.prog 44 #[.pointer a, .int .i64 off, .int .i64 each] w fun v w' => v = .int .i64 1 ∧ w' = w := by
  refine ret_of (args := [_, _, _]) _ Try.func44 rfl Try.ntmps44 (by simp) ?_
  simp -implicitDefEqProofs [go_sem]
  refine callE_of (size_nb w h) ?_
  rintro v w1 ⟨rfl, rfl⟩
  simp -implicitDefEqProofs [go_sem]
  refine body_tmp 6 rfl ?_
  simp -implicitDefEqProofs [go_sem]
theorem load_nb (off : Int) : Ret Try.prog 23 #[.pointer a, .int .i64 off] w fun v w' => v = .tuple #[.int .u64 0, .int .i64 1] ∧ w' = w := by
  refine ret_of (args := [_, _]) _ Try.func23 rfl Try.ntmps23 (by simp) ?_
  simp -implicitDefEqProofs [go_sem]
  refine callE_of (ask_nb w h off 8) ?_
  rintro v w1 ⟨rfl, rfl⟩
  simp -implicitDefEqProofs [go_sem]
  refine body_tmp2 4 5 rfl ?_
  simp -implicitDefEqProofs [go_sem]
theorem store_nb (off n : Int) : Ret Try.prog 22 #[.pointer a, .int .i64 off, .int .u64 n] w fun v w' => v = .int .i64 1 ∧ w' = w := by
  refine ret_of (args := [_, _, _]) _ Try.func22 rfl Try.ntmps22 (by simp) ?_
  simp -implicitDefEqProofs [go_sem]
  refine callE_of (load_nb w h off) ?_
  rintro v w1 ⟨rfl, rfl⟩
  simp -implicitDefEqProofs [go_sem]
  refine body_tmp 6 rfl ?_
  simp -implicitDefEqProofs [go_sem]
theorem flush_nb (off : Int) : Ret Try.prog 17 #[.pointer a, .int .i64 off] w fun v w' => v = .int .i64 1 ∧ w' = w := by
  refine ret_of (args := [_, _]) _ Try.func17 rfl Try.ntmps17 (by simp) ?_
  simp -implicitDefEqProofs [go_sem]
  refine callE_of (ask_nb w h off 1) ?_
  rintro v w1 ⟨rfl, rfl⟩
  simp -implicitDefEqProofs [go_sem]
  refine body_tmp 4 rfl ?_
  simp -implicitDefEqProofs [go_sem]
theorem fence_nb : Ret Try.prog 18 #[.pointer a] w fun v w' => v = .int .i64 1 ∧ w' = w := by
  refine ret_of (args := [_]) _ Try.func18 rfl Try.ntmps18 (by simp) ?_
  simp -implicitDefEqProofs [go_sem]
  refine callE_of (ask_nb w h 0 1) ?_
  rintro v w1 ⟨rfl, rfl⟩
  simp -implicitDefEqProofs [go_sem]
  refine body_tmp 2 rfl ?_
  simp -implicitDefEqProofs [go_sem]
theorem stop_nb (z : Int) : Ret Try.prog 24 #[.pointer a, .int .i64 z] w fun v w' => v = .tuple #[] ∧ w' = w := by
  refine ret_of (args := [_, _]) _ Try.func24 rfl Try.ntmps24 (by simp) ?_
  simp -implicitDefEqProofs [go_sem]
  refine callE_of (size_nb w h) ?_
  rintro v w1 ⟨rfl, rfl⟩
  simp -implicitDefEqProofs [go_sem]
  refine body_none rfl ?_
  exact ⟨rfl, rfl⟩
theorem crash_nb (v : Value) : Ret Try.prog 20 #[.pointer a, v] w fun v w' => v = .tuple #[] ∧ w' = w := by
  refine ret_of (args := [_, _]) _ Try.func20 rfl Try.ntmps20 (by simp) ?_
  simp -implicitDefEqProofs [go_sem]
  refine callE_of (size_nb w h) ?_
  rintro v w1 ⟨rfl, rfl⟩
  simp -implicitDefEqProofs [go_sem]
  refine body_none rfl ?_
  exact ⟨rfl, rfl⟩
theorem may_nb (i : Int) : Ret Try.prog 21 #[.pointer a, .int .i64 i] w fun v w' => v = .int .i64 0 ∧ w' = w := by
  refine ret_of (args := [_, _]) _ Try.func21 rfl Try.ntmps21 (by simp) ?_
  rcases h with rfl | ⟨p, rfl, hB⟩
  · simp -implicitDefEqProofs [go_sem]
    refine body_tmp 4 rfl ?_
    simp -implicitDefEqProofs [go_sem]
  · by_cases h1 : i < 0
    · simp -implicitDefEqProofs [go_sem, hB.cell, h1]
      refine body_tmp 4 rfl ?_
      simp -implicitDefEqProofs [go_sem]
    · have h2 : (0 : Int) ≤ i := by omega
      simp -implicitDefEqProofs [go_sem, hB.cell, h1, h2]
      refine body_tmp 4 rfl ?_
      simp -implicitDefEqProofs [go_sem]
theorem image_nb : Ret Try.prog 19 #[.pointer a] w fun v w' => v = .slice none 0 0 ∧ w' = w := by
  refine ret_of (args := [_]) _ Try.func19 rfl Try.ntmps19 (by simp) ?_
  simp -implicitDefEqProofs [go_sem]
  refine callE_of (size_nb w h) ?_
  rintro v w1 ⟨rfl, rfl⟩
  simp -implicitDefEqProofs [go_sem]
  refine body_tmp 2 rfl ?_
  simp -implicitDefEqProofs [go_sem]
theorem steps_nb : Ret Try.prog 25 #[.pointer a] w fun v w' => v = .int .i64 0 ∧ w' = w := by
  refine ret_of (args := [_]) _ Try.func25 rfl Try.ntmps25 (by simp) ?_
  rcases h with rfl | ⟨p, rfl, hB⟩
  · simp -implicitDefEqProofs [go_sem]
    refine body_tmp 2 rfl ?_
    simp -implicitDefEqProofs [go_sem]
  · simp -implicitDefEqProofs [go_sem, hB.cell]
    refine body_tmp 2 rfl ?_
    simp -implicitDefEqProofs [go_sem]
end

set_option maxRecDepth 20000 in
set_option maxHeartbeats 8000000 in
set_option linter.unusedSimpArgs false in
theorem nvmNobody_walk (off : Int) (n : BitVec 64) (many : Int) (w0 : World) (hm : I64 many) :
    Ret Try.prog 8 #[.int .i64 off, .int .u64 (uv n), .int .i64 many] w0 fun v w' => v = .bool true ∧ Below w0.heap.size w0 w' := by
  have bel0 := Below.refl w0.heap.size w0
  refine ret_of (args := [_, _, _]) _ Try.func8 rfl Try.ntmps8 (by simp) ?_
  simp -implicitDefEqProofs [go_sem]
  refine callE_of (alive_calls w0) ?_
  rintro v w1 ⟨rfl, b1⟩
  have bel1 := bel0.trans (b1.mono bel0.size)
  simp -implicitDefEqProofs [go_sem]
  generalize hw2 : World.alloc w1 _ = w2 at *
  obtain ⟨hB2, b2, sz2⟩ := new_facts hw2
  have bel2 := bel1.trans (b2.mono bel1.size)
  generalize hw3 : World.alloc w2 _ = w3 at *
  obtain ⟨hB3, b3, sz3⟩ := new_facts hw3
  have bel3 := bel2.trans (b3.mono bel2.size)
  replace hB2 := hB2.next b3
  have nb : ∀ i : Nat, i < 2 → ∃ a, w3.cell? ⟨w2.heap.size, 0 + i, none⟩ = some (.pointer a) ∧ Nobody w3 a := by
    intro i hi
    have : i = 0 ∨ i = 1 := by omega
    rcases this with rfl | rfl
    · exact ⟨none, by rw [hB3.cell]; rfl, .inl rfl⟩
    · exact ⟨some ⟨w1.heap.size, 0, none⟩, by rw [hB3.cell]; rfl, .inr ⟨_, rfl, hB2⟩⟩
  rw [← sz2]
  refine wpE_loop (fun e' w' => ∃ k : Nat, k ≤ 2 ∧ e' 0 = .int .i64 off ∧ e' 1 = .int .u64 (uv n) ∧ e' 2 = .int .i64 many ∧ e' 16 = .slice (some ⟨w2.heap.size, 0, none⟩) 2 2 ∧ e' 17 = .int .i64 2 ∧ e' 18 = .int .i64 (k : Int) ∧ w' = w3) (fun e' _ => 2 - (intOf (e' 18)).toNat) ?_ ?_
  · refine ⟨0, by omega, ?_⟩
    simp -implicitDefEqProofs [go_sem]
  · rintro e' w4 ⟨k, hk, g0, g1, g2, g16, g17, g18, rfl⟩
    by_cases hlt : k < 2
    · have hlt' : (k : Int) < 2 := by omega
      have hwk := IntWalk.i64_in ((k : Int) + 1) (by omega)
      obtain ⟨a, hca, hna⟩ := nb k hlt
      rw [Nat.zero_add] at hca
      simp -implicitDefEqProofs [go_sem, g0, g1, g2, g16, g17, g18, hlt, hlt', hca]
      refine callE_of (load_nb w4 hna off) ?_
      rintro v w5 ⟨rfl, rfl⟩
      simp -implicitDefEqProofs [go_sem, g0, g1, g2]
      refine callE_of (stop_nb w5 hna 3) ?_
      rintro v w6 ⟨rfl, rfl⟩
      simp -implicitDefEqProofs [go_sem, g0, g1, g2]
      refine callE_of (crash_nb w6 hna _) ?_
      rintro v w7 ⟨rfl, rfl⟩
      simp -implicitDefEqProofs [go_sem, g0, g1, g2]
      refine callE_of (store_nb w7 hna off (uv n)) ?_
      rintro v w8 ⟨rfl, rfl⟩
      simp -implicitDefEqProofs [go_sem, g0, g1, g2]
      refine callE_of (flush_nb w8 hna off) ?_
      rintro v w9 ⟨rfl, rfl⟩
      simp -implicitDefEqProofs [go_sem, g0, g1, g2]
      refine callE_of (fence_nb w9 hna) ?_
      rintro v w10 ⟨rfl, rfl⟩
      simp -implicitDefEqProofs [go_sem, g0, g1, g2]
      refine callE_of (may_nb w10 hna off) ?_
      rintro v w11 ⟨rfl, rfl⟩
      simp -implicitDefEqProofs [go_sem, g0, g1, g2]
      refine callE_of (image_nb w11 hna) ?_
      rintro v w12 ⟨rfl, rfl⟩
      simp -implicitDefEqProofs [go_sem, g0, g1, g2]
      refine callE_of (steps_nb w12 hna) ?_
      rintro v w13 ⟨rfl, rfl⟩
      simp -implicitDefEqProofs [go_sem, g0, g1, g2]
      refine callE_of (size_nb w13 hna) ?_
      rintro v w14 ⟨rfl, rfl⟩
      simp -implicitDefEqProofs [go_sem, g0, g1, g2, g16, g17, g18, hwk]
      refine goE_round ⟨k + 1, by omega, ?_⟩ ?_
      · simp -implicitDefEqProofs [go_sem, g0, g1, g2, g16, g17]
      · simp -implicitDefEqProofs [go_sem, intOf, g18, hwk]; omega
    · have hk' : k = 2 := by omega
      subst hk'
      by_cases h1 : 1024 < many
      · simp -implicitDefEqProofs [go_sem, g0, g1, g2, g16, g17, g18, h1]
        refine callE_of (newB many w4 hm) ?_
        rintro v w5 ⟨b5, ⟨_, rfl⟩ | ⟨h, _⟩⟩
        · simp -implicitDefEqProofs [go_sem]
          refine body_tmp 6 rfl ?_
          simp -implicitDefEqProofs [go_sem]
          exact bel3.trans (b5.mono bel3.size)
        · exact absurd h (by omega)
      · by_cases h2 : many < 1
        · simp -implicitDefEqProofs [go_sem, g0, g1, g2, g16, g17, g18, h1, h2]
          refine callE_of (newB many w4 hm) ?_
          rintro v w5 ⟨b5, ⟨_, rfl⟩ | ⟨h, _⟩⟩
          · simp -implicitDefEqProofs [go_sem]
            refine body_tmp 6 rfl ?_
            simp -implicitDefEqProofs [go_sem]
            exact bel3.trans (b5.mono bel3.size)
          · exact absurd h (by omega)
        · simp -implicitDefEqProofs [go_sem, g0, g1, g2, g16, g17, g18, h1, h2]
          refine callE_of (newB many w4 hm) ?_
          rintro v w5 ⟨b5, ⟨h, _⟩ | ⟨_, p, F, rfl, hd, _⟩⟩
          · exact absurd ⟨by omega, by omega⟩ h
          · simp -implicitDefEqProofs [go_sem, g0, g1, g2]
            refine callE_of (sizeB w5 hd) ?_
            rintro v w6 ⟨rfl, rfl⟩
            have hsz : ((NM.dev0 many.toNat).size : Int) = 64 * many := by
              unfold NM.Dv.size; simp [NM.dev0]; omega
            have hw := IntWalk.i64_in (64 * many) (by omega)
            simp -implicitDefEqProofs [go_sem, g0, g1, g2, hsz, hw]
            refine body_tmp 6 rfl ?_
            simp -implicitDefEqProofs [go_sem]
            exact bel3.trans (b5.mono bel3.size)
end Go.Proofs.Ytkljlgahdlgmpaa
