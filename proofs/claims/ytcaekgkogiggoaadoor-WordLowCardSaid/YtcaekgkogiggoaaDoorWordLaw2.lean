/- The laws of word: WordLow, WordFields. -/
import Derived.Test.YtcaekgkogiggoaaDoorWordLaw
import Derived.Test.YtcaekgkogiggoaaDoorWordMath2
namespace Go.Proofs.YtcaekgkogiggoaaDoor
open Go Go.RowKit

theorem allU : uv 18446744073709551615#64 = 18446744073709551615 := rfl
set_option maxHeartbeats 1000000 in
set_option linter.unusedSimpArgs false in
theorem wordLow_walk (n : BitVec 64) (many : BitVec 8) (w0 : World) (hT : Tabs w0) :
    Ret Tryd.prog 7 #[.int .u64 (uv n), .int .u8 (uv many)] w0 fun v w' => v = .bool true ∧ Below w0.heap.size w0 w' := by
  have bel0 := Below.refl w0.heap.size w0
  obtain ⟨m, hm⟩ : ∃ m : Nat, uv many = m := ⟨_, rfl⟩
  have hm8 : m < 256 := by have := many.isLt; unfold uv at hm; omega
  have hwm := IntWalk.i64_in (m : Int) (by omega)
  have hF := fun low size w => field_calls n low size w
  have hF1 := fun low size w => field_calls 18446744073709551615#64 low size w
  rw [allU] at hF1
  refine ret_of (args := [_, _]) _ Tryd.func7 rfl Tryd.ntmps7 (by simp) ?_
  simp -implicitDefEqProofs [go_sem]
  refine callE_of (alive_calls w0 hT) ?_
  rintro v w1 ⟨rfl, b1⟩
  have bel1 := bel0.trans (b1.mono bel0.size)
  replace hT := hT.next b1
  simp -implicitDefEqProofs [go_sem, hm, hwm]
  refine callE_of (low_calls n m w1 hT) ?_
  rintro v w2 ⟨rfl, b2⟩
  have bel2 := bel1.trans (b2.mono bel1.size)
  replace hT := hT.next b2
  have hmin : min (m : Int) 64 = ((min m 64 : Nat) : Int) := by omega
  rcases WM.low_law n m with ⟨h1, h2⟩ | ⟨t, h1, h2, h3, h4⟩
  · rw [h1]
    simp -implicitDefEqProofs [go_sem, hm, hwm, hmin]
    refine callE_of (hF _ _ _) ?_
    rintro v w3 ⟨rfl, b3⟩
    have bel3 := bel2.trans (b3.mono bel2.size)
    simp -implicitDefEqProofs [go_sem]
    refine callE_of (hF1 _ _ _) ?_
    rintro v w4 ⟨rfl, b4⟩
    have bel4 := bel3.trans (b4.mono bel3.size)
    simp -implicitDefEqProofs [go_sem, h2]
    refine body_tmp 4 rfl ?_
    simp -implicitDefEqProofs [go_sem]
    exact bel4
  · rw [h1]
    have c1 : ((t : Int) == -1) = false := by rw [beq_eq_false_iff_ne]; omega
    have c2 : (t : Int) < ((min m 64 : Nat) : Int) := by omega
    simp -implicitDefEqProofs [go_sem, hm, hwm, hmin, c1, c2]
    refine callE_of (hF _ _ _) ?_
    rintro v w3 ⟨rfl, b3⟩
    have bel3 := bel2.trans (b3.mono bel2.size)
    simp -implicitDefEqProofs [go_sem, h3]
    refine callE_of (hF _ _ _) ?_
    rintro v w4 ⟨rfl, b4⟩
    have bel4 := bel3.trans (b4.mono bel3.size)
    simp -implicitDefEqProofs [go_sem]
    refine callE_of (hF1 _ _ _) ?_
    rintro v w5 ⟨rfl, b5⟩
    have bel5 := bel4.trans (b5.mono bel4.size)
    simp -implicitDefEqProofs [go_sem, h4]
    refine body_tmp 4 rfl ?_
    simp -implicitDefEqProofs [go_sem]
    exact bel5

set_option maxHeartbeats 1000000 in
set_option linter.unusedSimpArgs false in
theorem wordFields_walk (n x : BitVec 64) (low size : BitVec 8) (w0 : World) (hT : Tabs w0) :
    Ret Tryd.prog 5 #[.agg #[.int .u64 (uv n), .int .u64 (uv x), .int .u8 (uv low), .int .u8 (uv size)]] w0 fun v w' => v = .bool true ∧ Below w0.heap.size w0 w' := by
  have bel0 := Below.refl w0.heap.size w0
  refine ret_of (args := [_]) _ Tryd.func5 rfl Tryd.ntmps5 (by simp) ?_
  simp -implicitDefEqProofs [go_sem]
  generalize hw1 : World.alloc w0 _ = w1 at *
  obtain ⟨hB1, b1, sz1⟩ := new_facts hw1
  have bel1 := bel0.trans (b1.mono bel0.size)
  replace hT := hT.next b1
  refine callE_of (alive_calls w1 hT) ?_
  rintro v w2 ⟨rfl, b2⟩
  have bel2 := bel1.trans (b2.mono bel1.size)
  replace hT := hT.next b2
  replace hB1 := hB1.next b2
  obtain ⟨l, hl⟩ : ∃ l : Nat, uv (low % 64#8) = l := ⟨_, rfl⟩
  have hl64 : l < 64 := by
    have h : (low % 64#8).toNat < 64 := by
      rw [BitVec.toNat_umod]; exact Nat.mod_lt _ (by decide)
    unfold uv at hl; omega
  obtain ⟨s0, hs0⟩ : ∃ s : Nat, uv (size % 65#8) = s := ⟨_, rfl⟩
  have hs65 : s0 < 65 := by
    have h : (size % 65#8).toNat < 65 := by
      rw [BitVec.toNat_umod]; exact Nat.mod_lt _ (by decide)
    unfold uv at hs0; omega
  have hwl := IntWalk.i64_in (l : Int) (by omega)
  have hws := IntWalk.i64_in (s0 : Int) (by omega)
  have hw64 := IntWalk.i64_in (64 - (l : Int)) (by omega)
  obtain ⟨s, hs⟩ : ∃ s : Nat, min (s0 : Int) (64 - l) = s := ⟨(min (s0 : Int) (64 - l)).toNat, by omega⟩
  have hls : l + s ≤ 64 := by omega
  have hwls := IntWalk.i64_in ((l : Int) + s) (by omega)
  obtain ⟨f1, f2, f3⟩ := WM.fields_law n x l s hl64 hls
  rw [Int.natCast_add] at f3
  have hW0 := fun w => with_calls 0#64 0 l (WM.fieldM n 0 l) w
  rw [show uv 0#64 = 0 from rfl] at hW0
  have f4 := WM.fields_law2 n l hl64
  have f5 := WM.fields_law3 n l s hl64 hls
  simp -implicitDefEqProofs [go_sem]
  refine drawE_still mixed (by decide +kernel) ?_
  simp -implicitDefEqProofs [go_sem, hB1.cell]
  unfold endE
  simp -implicitDefEqProofs [go_sem]
  refine drawE_still mixed (by decide +kernel) ?_
  simp -implicitDefEqProofs [go_sem, hB1.cell, hl, hs0, hwl, hws]
  unfold endE
  simp -implicitDefEqProofs [go_sem, hw64, hs]
  have bel3 := (bel2.drew).drew
  generalize w2.drew.drew = w3 at *
  refine callE_of (with_calls n l s x _) ?_
  rintro v w4 ⟨rfl, b4⟩
  have bel4 := bel3.trans (b4.mono bel3.size)
  simp -implicitDefEqProofs [go_sem, hwls, f1, f2, f3, f4, f5]
  refine callE_of (field_calls _ _ _ _) ?_
  rintro v w5 ⟨rfl, b5⟩
  have bel5 := bel4.trans (b5.mono bel4.size)
  simp -implicitDefEqProofs [go_sem, hwls, f1, f2, f3, f4, f5]
  refine callE_of (field_calls _ _ _ _) ?_
  rintro v w6 ⟨rfl, b6⟩
  have bel6 := bel5.trans (b6.mono bel5.size)
  simp -implicitDefEqProofs [go_sem, hwls, f1, f2, f3, f4, f5]
  refine callE_of (field_calls _ _ _ _) ?_
  rintro v w7 ⟨rfl, b7⟩
  have bel7 := bel6.trans (b7.mono bel6.size)
  simp -implicitDefEqProofs [go_sem, hwls, f1, f2, f3, f4, f5]
  refine callE_of (field_calls _ _ _ _) ?_
  rintro v w8 ⟨rfl, b8⟩
  have bel8 := bel7.trans (b8.mono bel7.size)
  simp -implicitDefEqProofs [go_sem, hwls, f1, f2, f3, f4, f5]
  refine callE_of (field_calls _ _ _ _) ?_
  rintro v w9 ⟨rfl, b9⟩
  have bel9 := bel8.trans (b9.mono bel8.size)
  simp -implicitDefEqProofs [go_sem, hwls, f1, f2, f3, f4, f5]
  refine callE_of (field_calls _ _ _ _) ?_
  rintro v w10 ⟨rfl, b10⟩
  have bel10 := bel9.trans (b10.mono bel9.size)
  simp -implicitDefEqProofs [go_sem, hwls, f1, f2, f3, f4, f5]
  refine callE_of (field_calls _ _ _ _) ?_
  rintro v w11 ⟨rfl, b11⟩
  have bel11 := bel10.trans (b11.mono bel10.size)
  simp -implicitDefEqProofs [go_sem, hwls, f1, f2, f3, f4, f5]
  refine callE_of (hW0 _) ?_
  rintro v w12 ⟨rfl, b12⟩
  have bel12 := bel11.trans (b12.mono bel11.size)
  simp -implicitDefEqProofs [go_sem, hwls, f1, f2, f3, f4, f5]
  refine callE_of (field_calls _ _ _ _) ?_
  rintro v w13 ⟨rfl, b13⟩
  have bel13 := bel12.trans (b13.mono bel12.size)
  simp -implicitDefEqProofs [go_sem, hwls, f1, f2, f3, f4, f5]
  refine callE_of (with_calls _ _ _ _ _) ?_
  rintro v w14 ⟨rfl, b14⟩
  have bel14 := bel13.trans (b14.mono bel13.size)
  simp -implicitDefEqProofs [go_sem, hwls, f1, f2, f3, f4, f5]
  refine callE_of (field_calls _ _ _ _) ?_
  rintro v w15 ⟨rfl, b15⟩
  have bel15 := bel14.trans (b15.mono bel14.size)
  simp -implicitDefEqProofs [go_sem, hwls, f1, f2, f3, f4, f5]
  refine callE_of (with_calls _ _ _ _ _) ?_
  rintro v w16 ⟨rfl, b16⟩
  have bel16 := bel15.trans (b16.mono bel15.size)
  simp -implicitDefEqProofs [go_sem, f5]
  refine body_tmp 2 rfl ?_
  simp -implicitDefEqProofs [go_sem]
  exact bel16
end Go.Proofs.YtcaekgkogiggoaaDoor
