/- The reference's shapes and words: walks. -/
import Derived.Test.YtcpackbljaabnaaGreatDoorHeadWords
import Derived.Test.YtcpackbljaabnaaGreatDoorPush
namespace Go.Proofs.YtcpackbljaabnaaGreatDoor
set_option linter.unusedVariables false
set_option linter.unusedSimpArgs false
set_option maxRecDepth 100000
open Go Go.RowKit

theorem owns_next {base : Nat} {e : TypeId} {k : Nat} {v : Value} {n : Nat} {xs : List Value} {w w' : World} (h : w.ownsRow base e k v n xs) (hb : Below w.heap.size w w') : w'.ownsRow base e k v n xs := by
  obtain ⟨hl, h⟩ := h
  refine ⟨hl, ?_⟩
  rcases h with h | ⟨g, cap, cur, hv, hg, hblk, rest⟩
  · exact .inl h
  · have hB : Blk w g cur e := hblk
    exact .inr ⟨g, cap, cur, hv, hg, hB.next hb, rest⟩
section
set_option linter.unusedSimpArgs false
theorem refUp_calls (s : Nat) (w : World) (hs : s ≤ 1000000) : Ret Tryz.prog 27 #[.int .i64 s] w fun v w' => v = .int .i64 (((s + 7) / 8 : Nat) : Int) ∧ w' = w := by
  have h1 := IntWalk.i64_in ((s : Int) + 7) (by omega)
  have e3 : ((s : Int) + 7).tdiv 8 = ((s + 7) / 8 : Nat) := by rw [Int.tdiv_eq_ediv_of_nonneg (by omega)]; omega
  have h3 := IntWalk.i64_in (((s : Int) + 7) / 8) (by omega)
  refine ret_of (args := [_]) _ Tryz.func27 rfl Tryz.ntmps27 (by simp) ?_
  simp -implicitDefEqProofs [go_sem, h1, e3, h3]
  refine body_tmp 2 rfl ?_
  simp -implicitDefEqProofs [go_sem, h3]
set_option maxHeartbeats 1000000 in
theorem refOf_calls (n : Int) (w0 : World) (hn : I64 n) : Ret Tryz.prog 7 #[.int .i64 n] w0 fun v w' => v = .tuple #[.agg (shapeC (HM.of n).1), .bool (HM.of n).2] ∧ Below w0.heap.size w0 w' := by
  have bel0 := Below.refl w0.heap.size w0
  have hst : Tryz.prog.underlying 30 = _ := Tryz.underlying30
  refine ret_of (args := [_]) _ Tryz.func7 rfl Tryz.ntmps7 (by simp) ?_
  simp -implicitDefEqProofs [go_sem]
  generalize hw1 : World.alloc w0 _ = w1 at *
  obtain ⟨hB1, b1, sz1⟩ := new_facts hw1
  have bel1 := bel0.trans (b1.mono bel0.size)
  have hz := stAll (P := Tryz.prog) (cs := #[.int .i64 0, .int .i64 0, .int .i64 0, .int .i64 0]) hB1 rshapeI4 rfl (shapeC_one HM.none4)
  have hBz : Blk (w1.setRow w0.heap.size #[.int .i64 0, .int .i64 0, .int .i64 0, .int .i64 0]) w0.heap.size #[.int .i64 0, .int .i64 0, .int .i64 0, .int .i64 0] 30 := hB1.row _
  by_cases hbig : 1024 < n
  · simp -implicitDefEqProofs [go_sem, hbig, ↓hz]
    refine bodyCell 2 3 rfl (by simp -implicitDefEqProofs [go_sem]) hBz hst rfl rshapeI4 ?_
    have e : HM.of n = (HM.none4, false) := by unfold HM.of; rw [if_pos hbig]
    rw [e]
    simp -implicitDefEqProofs [go_sem, shapeC, HM.none4]
    exact Below.row bel1 (Nat.le_refl _) _
  · simp -implicitDefEqProofs [go_sem, hbig]
    refine wpE_loop (fun e' w' => w' = w1 ∧ ∃ k : Nat, (k = 0 ∨ (HM.need k : Int) ≤ n) ∧ e' 0 = .int .i64 n ∧ e' 2 = .pointer (some ⟨w0.heap.size, 0, none⟩) ∧ e' 4 = .int .i64 k) (fun e' _ => 64 - (intOf (e' 4)).toNat) ?_ ?_
    · refine ⟨rfl, 0, .inl rfl, ?_⟩
      simp -implicitDefEqProofs [go_sem]
    · rintro e' w' ⟨rfl, k, hk, g0, g2, g4⟩
      have hk63 : k ≤ 63 := by
        rcases hk with hk | hk
        · omega
        · unfold HM.need at hk; omega
      have kw1 := IntWalk.i64_in ((k : Int) + 1) (by omega)
      simp -implicitDefEqProofs [go_sem, g0, g2, g4, kw1]
      refine callE_of (refUp_calls (k + 1) w' (by omega)) ?_
      rintro v w3 ⟨rfl, rfl⟩
      have hw2 := IntWalk.i64_in (2 + ((k : Int) + 1 + 7) / 8) (by omega)
      have hw3 := IntWalk.i64_in (16 * ((k : Int) + 1)) (by omega)
      have hw4 := IntWalk.i64_in (2 + ((k : Int) + 1 + 7) / 8 + 16 * ((k : Int) + 1)) (by omega)
      have en : ((HM.need (k + 1) : Nat) : Int) = 2 + ((k : Int) + 1 + 7) / 8 + 16 * ((k : Int) + 1) := by unfold HM.need; omega
      by_cases hle : (HM.need (k + 1) : Int) ≤ n
      · have hle' := hle
        rw [en] at hle'
        simp -implicitDefEqProofs [go_sem, g0, g2, g4, kw1, hw2, hw3, hw4, hle']
        refine goE_round ⟨rfl, k + 1, .inr hle, ?_⟩ ?_
        · simp -implicitDefEqProofs [go_sem, g0, g2]
        · simp -implicitDefEqProofs [go_sem, intOf, g4]; omega
      · have hle' := hle
        rw [en] at hle'
        have hs : HM.slabs n = k := slabs_int (by omega) hk (by omega)
        by_cases h0 : k = 0
        · have h0' : (k : Int) < 1 := by omega
          have hz3 := hz
          simp -implicitDefEqProofs [go_sem, g0, g2, g4, kw1, hw2, hw3, hw4, hle', h0', ↓hz3]
          refine bodyCell 2 3 rfl (by simp -implicitDefEqProofs [go_sem, g2]) hBz hst rfl rshapeI4 ?_
          have e : HM.of n = (HM.none4, false) := by unfold HM.of; rw [if_neg hbig, if_pos (by omega)]
          rw [e]
          simp -implicitDefEqProofs [go_sem, shapeC, HM.none4]
          exact Below.row bel1 (Nat.le_refl _) _
        · have h0' : ¬ (k : Int) < 1 := by omega
          simp -implicitDefEqProofs [go_sem, g0, g2, g4, kw1, hw2, hw3, hw4, hle', h0, h0']
          refine callE_of (refUp_calls k w3 (by omega)) ?_
          rintro v w4 ⟨rfl, rfl⟩
          have h5 := IntWalk.i64_in (2 + ((k : Int) + 7) / 8) (by omega)
          have h6 := IntWalk.i64_in (64 * (2 + ((k : Int) + 7) / 8)) (by omega)
          have hz2 := stAll (P := Tryz.prog) (cs := #[.int .i64 n, .int .i64 k, .int .i64 128, .int .i64 (64 * (2 + ((k : Int) + 7) / 8))]) hB1 rshapeI4 rfl (shapeC_one ⟨n, k, 128, 64 * (2 + ((k : Int) + 7) / 8)⟩)
          have hBz2 := hB1.row #[.int .i64 n, .int .i64 k, .int .i64 128, .int .i64 (64 * (2 + ((k : Int) + 7) / 8))]
          simp -implicitDefEqProofs [go_sem, g0, g2, g4, h5, h6, ↓hz2]
          refine bodyCell 2 3 rfl (by simp -implicitDefEqProofs [go_sem, g2]) hBz2 hst rfl rshapeI4 ?_
          have e : HM.of n = (HM.shapeOf n, true) := by unfold HM.of; rw [if_neg hbig, if_neg (by omega)]
          rw [e]
          refine ⟨?_, Below.row bel1 (Nat.le_refl _) _⟩
          simp -implicitDefEqProofs [go_sem, shapeC, HM.shapeOf, hs]
theorem owns_ge {w : World} {base m cap k : Nat} {e : TypeId} {a : Option Addr} {xs : List Value} (h : w.ownsRow base e k (.slice a m cap) m xs) : ∀ y, a = some y → base ≤ y.block := by
  rintro y rfl
  obtain ⟨_, ⟨hv, h0⟩ | ⟨g, cap2, cur, hv, hg, _⟩⟩ := h
  · cases hv
  · simp only [Value.slice.injEq, Option.some.injEq] at hv
    rw [hv.1]; exact hg
theorem byteOf_mod (x : BitVec 64) (k : Nat) : (x >>> (8 * k) % 256#64).setWidth 8 = WM.byteOf x k := by
  unfold WM.byteOf
  apply BitVec.eq_of_toNat_eq
  simp only [BitVec.toNat_setWidth, BitVec.toNat_umod]
  rw [show (256#64).toNat = 256 from rfl, Nat.mod_mod_of_dvd _ (by decide)]
theorem shr_div (x : BitVec 64) (k : Nat) : x >>> (8 * k) / 256#64 = x >>> (8 * (k + 1)) := by
  apply BitVec.eq_of_toNat_eq
  simp only [BitVec.toNat_udiv, BitVec.toNat_ushiftRight, Nat.shiftRight_eq_div_pow]
  rw [show (256#64).toNat = 256 from rfl, Nat.div_div_eq_div_mul, show 8 * (k + 1) = 8 * k + 8 by omega, Nat.pow_add]
end
end Go.Proofs.YtcpackbljaabnaaGreatDoor
