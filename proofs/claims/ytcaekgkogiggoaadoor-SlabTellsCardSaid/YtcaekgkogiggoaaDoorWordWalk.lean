/- Words and their bits: the walks of word and of its reference. -/
import Derived.Test.YtcaekgkogiggoaaDoorProg
import Derived.Test.YtcaekgkogiggoaaDoorEng
import Derived.Test.YtcaekgkogiggoaaDoorCalls
import Derived.Test.YtcaekgkogiggoaaDoorDraw
import Derived.Test.YtcaekgkogiggoaaDoorWords
import Derived.Test.YtcaekgkogiggoaaDoorWordMath
namespace Go.Proofs.YtcaekgkogiggoaaDoor
open Go Go.RowKit

theorem mixed : Tryd.prog.follows .mixedOrders = true := by kernel_rfl
/-- A number that an int may be. -/
def I64 (z : Int) : Prop := -9223372036854775808 ≤ z ∧ z ≤ 9223372036854775807
/-- de Bruijn's table, as the program's variable has it. -/
def Tabs (w : World) : Prop := ∀ j, j < 64 → w.cell? ⟨0, j, none⟩ = some (.int .u8 (uv (WM.tab.getD j 0#8)))
theorem Tabs.next {w w' : World} (h : Tabs w) (hb : Below w.heap.size w w') : Tabs w' := fun j hj => (hb.cell (p := ⟨_, _, none⟩) (World.block_lt_of_cell? w _ (h j hj))).trans (h j hj)
theorem Tabs.drew {w : World} (h : Tabs w) : Tabs w.drew := h
theorem ofInt_neg_uv {n : Nat} (x : BitVec n) : BitVec.ofInt n (-uv x) = -x := by rw [BitVec.ofInt_neg, ofInt_uv]
theorem ofInt_tdiv_uv {n : Nat} (x y : BitVec n) : BitVec.ofInt n ((uv x).tdiv (uv y)) = x / y := by
  have e : (uv x).tdiv (uv y) = ((x.toNat / y.toNat : Nat) : Int) := (Int.ofNat_tdiv _ _).symm
  rw [e, BitVec.ofInt_natCast]
  apply BitVec.eq_of_toNat_eq
  rw [BitVec.toNat_udiv, BitVec.toNat_ofNat, Nat.mod_eq_of_lt]
  exact Nat.lt_of_le_of_lt (Nat.div_le_self _ _) x.isLt
theorem BelowR {w : World} : Below w.heap.size w w := Below.refl _ _
attribute [go_sem] ofInt_neg_uv ofInt_tdiv_uv

theorem low_eq (low : Int) : min (max low 0) 64 = (WM.lowM low : Int) := by unfold WM.lowM; omega
theorem size_eq (low size : Int) : min (max size 0) (64 - (WM.lowM low : Int)) = (WM.sizeM low size : Int) := by unfold WM.sizeM; have := WM.lowM_le low; omega

set_option linter.unusedSimpArgs false in
theorem span_calls (low size : Int) (w : World) :
    Ret Tryd.prog 39 #[.int .i64 low, .int .i64 size] w fun v w' => v = .tuple #[.int .i64 (WM.lowM low), .int .u64 (uv (WM.ones (WM.sizeM low size)))] ∧ Below w.heap.size w w' := by
  have h1 := low_eq low
  have h2 := size_eq low size
  have h3 := IntWalk.i64_in (64 - (WM.lowM low : Int)) (by have := WM.lowM_le low; omega)
  refine ret_of (args := [_, _]) _ Tryd.func39 rfl Tryd.ntmps39 (by simp) ?_
  simp -implicitDefEqProofs [go_sem, h1, h2, h3]
  refine drawE_still mixed (by decide +kernel) ?_
  simp -implicitDefEqProofs [go_sem]
  unfold endE
  simp -implicitDefEqProofs [go_sem]
  refine body_tmp2 4 5 rfl ?_
  simp -implicitDefEqProofs [go_sem, WM.ones]
  exact BelowR.drew
set_option linter.unusedSimpArgs false in
theorem field_calls (n : BitVec 64) (low size : Int) (w : World) :
    Ret Tryd.prog 14 #[.int .u64 (uv n), .int .i64 low, .int .i64 size] w fun v w' => v = .int .u64 (uv (WM.fieldM n low size)) ∧ Below w.heap.size w w' := by
  refine ret_of (args := [_, _, _]) _ Tryd.func14 rfl Tryd.ntmps14 (by simp) ?_
  simp -implicitDefEqProofs [go_sem]
  refine callE_of (span_calls low size w) ?_
  rintro v w1 ⟨rfl, b1⟩
  simp -implicitDefEqProofs [go_sem]
  refine body_tmp 6 rfl ?_
  simp -implicitDefEqProofs [go_sem, WM.fieldM]
  exact b1
set_option linter.unusedSimpArgs false in
theorem with_calls (n : BitVec 64) (low size : Int) (x : BitVec 64) (w : World) :
    Ret Tryd.prog 16 #[.int .u64 (uv n), .int .i64 low, .int .i64 size, .int .u64 (uv x)] w fun v w' => v = .int .u64 (uv (WM.withM n low size x)) ∧ Below w.heap.size w w' := by
  refine ret_of (args := [_, _, _, _]) _ Tryd.func16 rfl Tryd.ntmps16 (by simp) ?_
  simp -implicitDefEqProofs [go_sem]
  refine callE_of (span_calls low size w) ?_
  rintro v w1 ⟨rfl, b1⟩
  simp -implicitDefEqProofs [go_sem]
  refine drawE_still mixed (by decide +kernel) ?_
  simp -implicitDefEqProofs [go_sem]
  unfold endE
  simp -implicitDefEqProofs [go_sem]
  refine body_tmp 8 rfl ?_
  simp -implicitDefEqProofs [go_sem, WM.withM]
  exact b1.drew
set_option linter.unusedSimpArgs false in
theorem zeros_calls (x : BitVec 64) (w : World) (hT : Tabs w) :
    Ret Tryd.prog 42 #[.int .u64 (uv x)] w fun v w' => ∃ t : Nat, v = .int .i64 t ∧ WM.Zeros x t ∧ w' = w := by
  refine ret_of (args := [_]) _ Tryd.func42 rfl Tryd.ntmps42 (by simp) ?_
  by_cases hx : x = 0#64
  · subst hx
    simp -implicitDefEqProofs [go_sem]
    refine body_tmp 2 rfl ?_
    simp -implicitDefEqProofs [go_sem]
    exact ⟨64, rfl, WM.zeros_zero⟩
  · have hx' : (x == 0#64) = false := by rw [beq_eq_false_iff_ne]; exact hx
    obtain ⟨i, hi⟩ : ∃ i, i = idx (((x &&& -x) * 285870213051353865#64) >>> 58) := ⟨_, rfl⟩
    have hi64 : i < 64 := by
      rw [hi]; unfold idx; rw [BitVec.toNat_ushiftRight, Nat.shiftRight_eq_div_pow]
      have := ((x &&& -x) * 285870213051353865#64).isLt
      omega
    have hui : uv (((x &&& -x) * 285870213051353865#64) >>> 58) = (i : Int) := by rw [hi]; rfl
    have hc := hT i hi64
    have hi64' : (i : Int) < 64 := by omega
    have hte : (WM.tab.getD i 0#8).toNat = WM.tabAt x := by rw [hi]; rfl
    have hcv : IntKind.i64.wrap (uv (WM.tab.getD i 0#8)) = (WM.tabAt x : Int) := by
      rw [← hte, IntWalk.i64_in _ (by unfold uv; have := (WM.tab.getD i 0#8).isLt; omega)]; rfl
    generalize WM.tab.getD i 0#8 = y at *
    simp -implicitDefEqProofs [go_sem, hx', hui, hi64', hi64, hc, hcv]
    refine body_tmp 2 rfl ?_
    simp -implicitDefEqProofs [go_sem]
    exact ⟨_, rfl, WM.tab_zeros x hx⟩
set_option linter.unusedSimpArgs false in
theorem low_calls (n : BitVec 64) (many : Int) (w : World) (hT : Tabs w) :
    Ret Tryd.prog 18 #[.int .u64 (uv n), .int .i64 many] w fun v w' => v = .int .i64 (WM.lowOff n many) ∧ Below w.heap.size w w' := by
  refine ret_of (args := [_, _]) _ Tryd.func18 rfl Tryd.ntmps18 (by simp) ?_
  simp -implicitDefEqProofs [go_sem]
  refine callE_of (zeros_calls (~~~n) w hT) ?_
  rintro v w1 ⟨t, rfl, hz, rfl⟩
  have hl := WM.lowOff_zeros n many t hz
  by_cases hlt : (t : Int) < min many 64
  · rw [if_pos hlt] at hl
    simp -implicitDefEqProofs [go_sem, hlt]
    refine body_tmp 4 rfl ?_
    simp -implicitDefEqProofs [go_sem, hl]
    exact BelowR
  · rw [if_neg hlt] at hl
    simp -implicitDefEqProofs [go_sem, hlt]
    refine body_tmp 4 rfl ?_
    simp -implicitDefEqProofs [go_sem, hl]
    exact BelowR

/-! ### The reference -/
set_option linter.unusedSimpArgs false in
theorem power_calls (i : Nat) (hi : i < 64) (w : World) :
    Ret Tryd.prog 41 #[.int .i64 i] w fun v w' => v = .int .u64 (uv (BitVec.twoPow 64 i)) ∧ w' = w := by
  refine ret_of (args := [_]) _ Tryd.func41 rfl Tryd.ntmps41 (by simp) ?_
  simp -implicitDefEqProofs [go_sem]
  refine wpE_loop (fun e' w' => w' = w ∧ ∃ k : Nat, k ≤ i ∧ e' 0 = .int .i64 i ∧ e' 3 = .int .u64 (uv (BitVec.twoPow 64 k)) ∧ e' 4 = .int .i64 k) (fun e' _ => i - (intOf (e' 4)).toNat) ?_ ?_
  · refine ⟨rfl, 0, Nat.zero_le _, ?_⟩
    simp -implicitDefEqProofs [go_sem]
    rfl
  · rintro e' w' ⟨rfl, k, hk, h0, h3, h4⟩
    by_cases hlt : k < i
    · have hw := IntWalk.i64_in ((k : Int) + 1) (by omega)
      simp -implicitDefEqProofs [go_sem, h0, h3, h4, hlt, hw]
      refine goE_round ⟨rfl, k + 1, by omega, ?_⟩ ?_
      · simp -implicitDefEqProofs [go_sem, h0, WM.two_mul]
      · simp -implicitDefEqProofs [go_sem, intOf, h4]; omega
    · have hk' : k = i := by omega
      subst hk'
      simp -implicitDefEqProofs [go_sem, h0, h3, h4]
      refine body_tmp 2 rfl ?_
      simp -implicitDefEqProofs [go_sem]
set_option linter.unusedSimpArgs false in
theorem bit_calls (n : BitVec 64) (i : Int) (w : World) :
    Ret Tryd.prog 40 #[.int .u64 (uv n), .int .i64 i] w fun v w' => v = .bool (WM.bitM n i) ∧ w' = w := by
  refine ret_of (args := [_, _]) _ Tryd.func40 rfl Tryd.ntmps40 (by simp) ?_
  by_cases h1 : i < 0
  · simp -implicitDefEqProofs [go_sem, h1]
    refine body_tmp 4 rfl ?_
    simp -implicitDefEqProofs [go_sem, WM.bitM, h1]
  · by_cases h2 : 63 < i
    · simp -implicitDefEqProofs [go_sem, h1, h2]
      refine body_tmp 4 rfl ?_
      simp -implicitDefEqProofs [go_sem, WM.bitM, h2]
    · obtain ⟨k, rfl⟩ := Int.eq_ofNat_of_zero_le (by omega : 0 ≤ i)
      have hk : k < 64 := by omega
      simp -implicitDefEqProofs [go_sem, h1, h2]
      refine callE_of (power_calls k hk w) ?_
      rintro v w1 ⟨rfl, rfl⟩
      have hz : (BitVec.twoPow 64 k == 0#64) = false := by
        rw [beq_eq_false_iff_ne]
        intro h
        have := WM.two_bit k k hk
        rw [h] at this; simp at this
      have hz' : BitVec.twoPow 64 k ≠ 0#64 := by simpa using hz
      simp -implicitDefEqProofs [go_sem, hz, hz']
      refine body_tmp 4 rfl ?_
      simp -implicitDefEqProofs [go_sem, WM.bitM, h1, h2, WM.bit_eq n k hk]

set_option linter.unusedSimpArgs false in
theorem refField_calls (n : BitVec 64) (low size : Int) (w : World) (hl : I64 low) (hs : I64 size) :
    Ret Tryd.prog 15 #[.int .u64 (uv n), .int .i64 low, .int .i64 size] w fun v w' => v = .int .u64 (uv (WM.fieldM n low size)) ∧ Below w.heap.size w w' := by
  obtain ⟨hl1, hl2⟩ := hl
  obtain ⟨hs1, hs2⟩ := hs
  obtain ⟨lo, hlo⟩ : ∃ lo : Nat, max low 0 = lo := ⟨(max low 0).toNat, by omega⟩
  have hres := WM.refField_eq n low size
  rw [hlo, Int.toNat_natCast] at hres
  have hr : WM.rounds low size = if lo < 64 then (min (max size 0) 64).toNat else 0 := by
    unfold WM.rounds
    by_cases h : low < 64
    · rw [if_pos h, if_pos (by omega)]
    · rw [if_neg h, if_neg (by omega)]
  refine ret_of (args := [_, _, _]) _ Tryd.func15 rfl Tryd.ntmps15 (by simp) ?_
  simp -implicitDefEqProofs [go_sem, hlo]
  refine wpE_loop (fun e' w' => Below w.heap.size w w' ∧ ∃ k : Nat, k ≤ WM.rounds low size ∧ e' 0 = .int .u64 (uv n) ∧ e' 1 = .int .i64 lo ∧ e' 2 = .int .i64 size ∧ e' 7 = .int .u64 (uv (WM.refField n lo k)) ∧ e' 8 = .int .i64 k) (fun e' _ => 64 - (intOf (e' 8)).toNat) ?_ ?_
  · refine ⟨BelowR, 0, Nat.zero_le _, ?_⟩
    simp -implicitDefEqProofs [go_sem, WM.refField]
    simp [uv]
  · rintro e' w' ⟨bel, k, hk, h0, h1, h2, h7, h8⟩
    by_cases hlt : k < WM.rounds low size
    · have hlo64 : lo < 64 := by
        rcases Nat.lt_or_ge lo 64 with h | h
        · exact h
        · rw [hr, if_neg (by omega)] at hlt; omega
      rw [hr, if_pos hlo64] at hlt
      have c1 : (k : Int) < size := by omega
      have c2 : (k : Int) < 64 := by omega
      have c3 : (lo : Int) < 64 := by omega
      have hw := IntWalk.i64_in ((k : Int) + 1) (by omega)
      have hw2 := IntWalk.i64_in ((lo : Int) + k) (by omega)
      simp -implicitDefEqProofs [go_sem, h0, h1, h2, h7, h8, c1, c2, c3, hw2]
      refine callE_of (bit_calls n ((lo : Int) + k) w') ?_
      rintro v w2 ⟨rfl, rfl⟩
      have hb : WM.bitM n (lo + k : Nat) = WM.bitM n ((lo : Int) + k) := by rw [Int.natCast_add]
      cases hc : WM.bitM n ((lo : Int) + k)
      · simp -implicitDefEqProofs [go_sem, h7, h8, hw]
        refine goE_round ⟨bel, k + 1, by rw [hr, if_pos hlo64]; omega, ?_⟩ ?_
        · simp -implicitDefEqProofs [go_sem, h0, h1, h2, h7, WM.refField, hb, hc]
        · simp -implicitDefEqProofs [go_sem, intOf, h8]; omega
      · simp -implicitDefEqProofs [go_sem, h7, h8]
        refine callE_of (power_calls k (by omega) w2) ?_
        rintro v w3 ⟨rfl, rfl⟩
        simp -implicitDefEqProofs [go_sem, h7, h8, hw]
        refine goE_round ⟨bel, k + 1, by rw [hr, if_pos hlo64]; omega, ?_⟩ ?_
        · simp -implicitDefEqProofs [go_sem, h0, h1, h2, h7, WM.refField, hb, hc]
        · simp -implicitDefEqProofs [go_sem, intOf, h8]; omega
    · have hk' : k = WM.rounds low size := by omega
      rw [← hk'] at hres
      have hc : ¬ ((k : Int) < size ∧ (k : Int) < 64 ∧ (lo : Int) < 64) := by
        rintro ⟨c1, c2, c3⟩
        rw [hr, if_pos (by omega)] at hlt; omega
      by_cases c1 : (k : Int) < size
      · by_cases c2 : (k : Int) < 64
        · have c3 : ¬ (lo : Int) < 64 := fun c3 => hc ⟨c1, c2, c3⟩
          simp -implicitDefEqProofs [go_sem, h0, h1, h2, h7, h8, c1, c2, c3]
          refine body_tmp 6 rfl ?_
          simp -implicitDefEqProofs [go_sem, hres]
          exact bel
        · simp -implicitDefEqProofs [go_sem, h0, h1, h2, h7, h8, c1, c2]
          refine body_tmp 6 rfl ?_
          simp -implicitDefEqProofs [go_sem, hres]
          exact bel
      · simp -implicitDefEqProofs [go_sem, h0, h1, h2, h7, h8, c1]
        refine body_tmp 6 rfl ?_
        simp -implicitDefEqProofs [go_sem, hres]
        exact bel
set_option linter.unusedSimpArgs false in
theorem refWith_calls (n : BitVec 64) (low size : Int) (x : BitVec 64) (w : World) (hl : I64 low) (hs : I64 size) :
    Ret Tryd.prog 17 #[.int .u64 (uv n), .int .i64 low, .int .i64 size, .int .u64 (uv x)] w fun v w' => v = .int .u64 (uv (WM.withM n low size x)) ∧ Below w.heap.size w w' := by
  obtain ⟨hl1, hl2⟩ := hl
  obtain ⟨hs1, hs2⟩ := hs
  obtain ⟨lo, hlo⟩ : ∃ lo : Nat, max low 0 = lo := ⟨(max low 0).toNat, by omega⟩
  have hres := WM.refWith_eq n low size x
  rw [hlo, Int.toNat_natCast] at hres
  have hr : WM.roundsW low size = if lo < 64 then (min (max size 0) (64 - lo)).toNat else 0 := by
    unfold WM.roundsW
    by_cases h : low < 64
    · rw [if_pos h, if_pos (by omega), hlo]
    · rw [if_neg h, if_neg (by omega)]
  refine ret_of (args := [_, _, _, _]) _ Tryd.func17 rfl Tryd.ntmps17 (by simp) ?_
  simp -implicitDefEqProofs [go_sem, hlo]
  refine wpE_loop (fun e' w' => Below w.heap.size w w' ∧ ∃ k : Nat, k ≤ WM.roundsW low size ∧ e' 0 = .int .u64 (uv (WM.refWith n lo x k)) ∧ e' 1 = .int .i64 lo ∧ e' 2 = .int .i64 size ∧ e' 3 = .int .u64 (uv x) ∧ e' 9 = .int .i64 k) (fun e' _ => 64 - (intOf (e' 9)).toNat) ?_ ?_
  · refine ⟨BelowR, 0, Nat.zero_le _, ?_⟩
    simp -implicitDefEqProofs [go_sem, WM.refWith]
  · rintro e' w' ⟨bel, k, hk, h0, h1, h2, h3, h9⟩
    by_cases hlt : k < WM.roundsW low size
    · have hlo64 : lo < 64 := by
        rcases Nat.lt_or_ge lo 64 with h | h
        · exact h
        · rw [hr, if_neg (by omega)] at hlt; omega
      rw [hr, if_pos hlo64] at hlt
      have c1 : (k : Int) < size := by omega
      have c2 : (k : Int) < 64 := by omega
      have c3 : (lo : Int) < 64 := by omega
      have c4 : (lo : Int) + k < 64 := by omega
      have hw := IntWalk.i64_in ((k : Int) + 1) (by omega)
      have hw2 := IntWalk.i64_in ((lo : Int) + k) (by omega)
      have hb : ∀ n, WM.bitM n (lo + k : Nat) = WM.bitM n ((lo : Int) + k) := fun n => by rw [Int.natCast_add]
      have hst : WM.refWith n lo x (k + 1) = WM.withStep (WM.refWith n lo x k) (lo + k) x k := rfl
      unfold WM.withStep at hst
      rw [hb] at hst
      have hp := fun w => power_calls (lo + k) (by omega) w
      rw [Int.natCast_add] at hp
      have hlt2 : k + 1 ≤ WM.roundsW low size := by rw [hr, if_pos hlo64]; omega
      generalize WM.refWith n lo x k = y at *
      simp -implicitDefEqProofs [go_sem, h0, h1, h2, h3, h9, c1, c2, c3, c4, hw2]
      refine callE_of (bit_calls y ((lo : Int) + k) w') ?_
      rintro v w2 ⟨rfl, rfl⟩
      cases hc1 : WM.bitM y ((lo : Int) + k)
      all_goals
        rw [hc1] at hst
        simp -implicitDefEqProofs [go_sem, h0, h1, h3, h9, hw2]
        try
          refine callE_of (hp _) ?_
          rintro v w3 ⟨rfl, rfl⟩
          simp -implicitDefEqProofs [go_sem, h0, h1, h3, h9]
        refine callE_of (bit_calls x (k : Int) _) ?_
        rintro v w4 ⟨rfl, rfl⟩
        cases hc2 : WM.bitM x (k : Int)
        all_goals
          rw [hc2] at hst
          simp -implicitDefEqProofs [go_sem, h0, h1, h3, h9, hw, hw2]
          try
            refine callE_of (hp _) ?_
            rintro v w5 ⟨rfl, rfl⟩
            simp -implicitDefEqProofs [go_sem, h0, h1, h3, h9, hw]
          refine goE_round ⟨bel, k + 1, hlt2, ?_⟩ ?_
          · simp -implicitDefEqProofs [go_sem, h0, h1, h2, h3, hst]
          · simp -implicitDefEqProofs [go_sem, intOf, h9]; omega
    · have hk' : k = WM.roundsW low size := by omega
      rw [← hk'] at hres
      have hc : ¬ ((k : Int) < size ∧ (k : Int) < 64 ∧ (lo : Int) < 64 ∧ (lo : Int) + k < 64) := by
        rintro ⟨c1, c2, c3, c4⟩
        rw [hr, if_pos (by omega)] at hlt; omega
      by_cases c1 : (k : Int) < size
      · by_cases c2 : (k : Int) < 64
        · by_cases c3 : (lo : Int) < 64
          · have c4 : ¬ (lo : Int) + k < 64 := fun c4 => hc ⟨c1, c2, c3, c4⟩
            have hw2 := IntWalk.i64_in ((lo : Int) + k) (by omega)
            simp -implicitDefEqProofs [go_sem, h0, h1, h2, h3, h9, c1, c2, c3, hw2, c4]
            refine body_tmp 8 rfl ?_
            simp -implicitDefEqProofs [go_sem, hres]
            exact bel
          · simp -implicitDefEqProofs [go_sem, h0, h1, h2, h3, h9, c1, c2, c3]
            refine body_tmp 8 rfl ?_
            simp -implicitDefEqProofs [go_sem, hres]
            exact bel
        · simp -implicitDefEqProofs [go_sem, h0, h1, h2, h3, h9, c1, c2]
          refine body_tmp 8 rfl ?_
          simp -implicitDefEqProofs [go_sem, hres]
          exact bel
      · simp -implicitDefEqProofs [go_sem, h0, h1, h2, h3, h9, c1]
        refine body_tmp 8 rfl ?_
        simp -implicitDefEqProofs [go_sem, hres]
        exact bel
set_option linter.unusedSimpArgs false in
theorem refLow_calls (n : BitVec 64) (many : Int) (w : World) (hs : I64 many) :
    Ret Tryd.prog 19 #[.int .u64 (uv n), .int .i64 many] w fun v w' => v = .int .i64 (WM.lowOff n many) ∧ Below w.heap.size w w' := by
  obtain ⟨hs1, hs2⟩ := hs
  obtain ⟨m, hm⟩ : ∃ m, m = (min (max many 0) 64).toNat := ⟨_, rfl⟩
  have hres : WM.lowOff n many = WM.firstOff n 0 m := by rw [hm]; rfl
  refine ret_of (args := [_, _]) _ Tryd.func19 rfl Tryd.ntmps19 (by simp) ?_
  simp -implicitDefEqProofs [go_sem]
  refine wpE_loop (fun e' w' => Below w.heap.size w w' ∧ ∃ k : Nat, k ≤ m ∧ WM.firstOff n 0 m = WM.firstOff n k (m - k) ∧ e' 0 = .int .u64 (uv n) ∧ e' 1 = .int .i64 many ∧ e' 5 = .int .i64 k) (fun e' _ => 64 - (intOf (e' 5)).toNat) ?_ ?_
  · refine ⟨BelowR, 0, Nat.zero_le _, ?_⟩
    simp -implicitDefEqProofs [go_sem]
  · rintro e' w' ⟨bel, k, hk, hf, h0, h1, h5⟩
    by_cases hlt : k < m
    · have c1 : (k : Int) < many := by omega
      have c2 : (k : Int) < 64 := by omega
      have hw := IntWalk.i64_in ((k : Int) + 1) (by omega)
      have hst : WM.firstOff n k (m - k) = if n.getLsbD k then WM.firstOff n (k + 1) (m - (k + 1)) else (k : Int) := by
        rw [show m - k = (m - (k + 1)) + 1 by omega]; rfl
      rw [← WM.bitM_nat n k] at hst
      simp -implicitDefEqProofs [go_sem, h0, h1, h5, c1, c2]
      refine callE_of (bit_calls n (k : Int) w') ?_
      rintro v w2 ⟨rfl, rfl⟩
      cases hc : WM.bitM n (k : Int)
      · rw [if_neg (by rw [hc]; simp)] at hst
        simp -implicitDefEqProofs [go_sem, h5]
        refine body_tmp 4 rfl ?_
        simp -implicitDefEqProofs [go_sem, hres, hf, hst]
        exact bel
      · rw [if_pos hc] at hst
        simp -implicitDefEqProofs [go_sem, h5, hw]
        refine goE_round ⟨bel, k + 1, by omega, ?_, ?_⟩ ?_
        · rw [hf, hst]
        · simp -implicitDefEqProofs [go_sem, h0, h1]
        · simp -implicitDefEqProofs [go_sem, intOf, h5]; omega
    · have hk' : k = m := by omega
      have hst : WM.firstOff n k (m - k) = -1 := by rw [hk', Nat.sub_self]; rfl
      by_cases c1 : (k : Int) < many
      · have c2 : ¬ (k : Int) < 64 := by omega
        simp -implicitDefEqProofs [go_sem, h0, h1, h5, c1, c2]
        refine body_tmp 4 rfl ?_
        simp -implicitDefEqProofs [go_sem, hres, hf, hst]
        exact bel
      · simp -implicitDefEqProofs [go_sem, h0, h1, h5, c1]
        refine body_tmp 4 rfl ?_
        simp -implicitDefEqProofs [go_sem, hres, hf, hst]
        exact bel
end Go.Proofs.YtcaekgkogiggoaaDoor
