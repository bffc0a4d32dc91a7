/- What the document fixes of shapes, Format and Open: alive answers true. -/
import Derived.Test.YtfppphmlepdopaaDoorHeadForm
namespace Go.Proofs.YtfppphmlepdopaaDoor
set_option linter.unusedVariables false
set_option linter.unusedSimpArgs false
open Go Go.RowKit

theorem of_19 : HM.of 19 = (⟨19, 1, 128, 192⟩, true) := by decide +kernel
theorem of_18 : HM.of 18 = (HM.none4, false) := by decide +kernel
theorem of_40 : HM.of 40 = (⟨40, 2, 128, 192⟩, true) := by decide +kernel
theorem dev0_len (n : Nat) : (NM.dev0 n).ls.length = n := by simp [NM.dev0]
theorem form40 : (NM.dev0 40).format.2 = (⟨40, 2, 128, 192⟩, 0) ∧ (NM.dev0 40).format.1.openH = (⟨40, 2, 128, 192⟩, 0) := by
  have hof : (HM.of (NM.dev0 40).ls.length).2 = true := by rw [dev0_len]; exact congrArg (·.2) of_40
  have h1 := (NM.format_up (NM.dev0_ok 40 (by omega)) (NM.dev0_up 40) (by rw [dev0_len]; omega) hof).1
  have h2 := NM.open_format (NM.dev0_ok 40 (by omega)) (NM.dev0_up 40) (by rw [dev0_len]; omega) hof
  have e : (HM.of (NM.dev0 40).ls.length).1 = ⟨40, 2, 128, 192⟩ := by rw [dev0_len]; exact congrArg (·.1) of_40
  rw [e] at h1 h2
  exact ⟨h1, h2⟩
section
set_option linter.unusedSimpArgs false
set_option maxHeartbeats 2000000 in
theorem alive_calls (w0 : World) (hF : Fours w0) : Ret Tryd.prog 11 #[] w0 fun v w' => v = .bool true ∧ Below w0.heap.size w0 w' := by
  have bel0 := Below.refl w0.heap.size w0
  have hst : Tryd.prog.underlying 25 = _ := Tryd.underlying25
  refine ret_of (args := []) _ Tryd.func11 rfl Tryd.ntmps11 (by simp) ?_
  simp -implicitDefEqProofs [go_sem]
  refine callE_of (headOf_calls 19 w0 (by unfold I64; omega)) ?_
  rintro v w1 ⟨rfl, b1⟩
  have bel1 := bel0.trans (b1.mono bel0.size)
  rw [of_19]
  simp -implicitDefEqProofs [go_sem, ↓stShape ⟨19, 1, 128, 192⟩]
  generalize hw2 : World.alloc w1 _ = w2 at *
  obtain ⟨hB2, b2, sz2⟩ := new_facts hw2
  have bel2 := bel1.trans (b2.mono bel1.size)
  refine callE_of (headOf_calls 18 w2 (by unfold I64; omega)) ?_
  rintro v w3 ⟨rfl, b3⟩
  have bel3 := bel2.trans (b3.mono bel2.size)
  replace hB2 := hB2.next b3
  rw [of_18]
  simp -implicitDefEqProofs [go_sem, ↓stShape HM.none4]
  generalize hw4 : World.alloc w3 _ = w4 at *
  obtain ⟨hB4, b4, sz4⟩ := new_facts hw4
  have bel4 := bel3.trans (b4.mono bel3.size)
  replace hB2 := hB2.next b4
  have hlt2 := hB2.lt
  refine callE_of (newB 40 w4 (by unfold I64; omega)) ?_
  rintro v w5 ⟨b5, ⟨hn, rfl⟩ | ⟨hn, p, F5, rfl, h5, hg5⟩⟩
  · omega
  have bel5 := bel4.trans (b5.mono bel4.size)
  replace hB2 := hB2.next b5
  have hS5 : St w0 w5 p F5 (NM.dev0 40) := ⟨h5, bel5, fun k hk => by have := hg5 k hk; have := bel4.size; omega⟩
  simp -implicitDefEqProofs [go_sem]
  refine callE_of (format_calls w5 hS5 hF (by show 0 + 3000000 < 1099511627776; omega)) ?_
  rintro v w6 ⟨rfl, F6, h6, t6⟩
  have hS6 := hS5.step h6 t6
  have hnF5 : ¬ F5 w1.heap.size := fun hf => by have h1 := hg5 _ hf; omega
  have hB6 := hB2.turn t6 hnF5
  have bel6 := hS6.bel
  rw [form40.1]
  simp -implicitDefEqProofs [go_sem, ↓stShape ⟨40, 2, 128, 192⟩]
  replace hF := hF.below bel6
  generalize hw7 : World.alloc w6 _ = w7 at *
  obtain ⟨hB7, b7, sz7⟩ := new_facts hw7
  have bel7 := bel6.trans (b7.mono bel6.size)
  replace hB6 := hB6.next b7
  replace h6 := h6.next b7
  replace hF := hF.next b7
  refine callE_of (openH_calls w7 h6 hF) ?_
  rintro v w8 ⟨rfl, b8⟩
  have bel8 := bel7.trans (b8.mono bel7.size)
  replace hB6 := hB6.next b8
  replace hB7 := hB7.next b8
  replace hF := hF.next b8
  rw [form40.2]
  simp -implicitDefEqProofs [go_sem, ↓stShape ⟨40, 2, 128, 192⟩]
  generalize hw9 : World.alloc w8 _ = w9 at *
  obtain ⟨hB9, b9, sz9⟩ := new_facts hw9
  have bel9 := bel8.trans (b9.mono bel8.size)
  replace hB6 := hB6.next b9
  replace hB7 := hB7.next b9
  replace hF := hF.next b9
  refine callE_of (newB 40 w9 (by unfold I64; omega)) ?_
  rintro v w10 ⟨b10, ⟨hn, rfl⟩ | ⟨hn, q, F10, rfl, h10, hg10⟩⟩
  · omega
  have bel10 := bel9.trans (b10.mono bel9.size)
  replace hB6 := hB6.next b10
  replace hB7 := hB7.next b10
  replace hB9 := hB9.next b10
  replace hF := hF.next b10
  simp -implicitDefEqProofs [go_sem]
  refine callE_of (openH_calls w10 h10 hF) ?_
  rintro v w11 ⟨rfl, b11⟩
  have bel11 := bel10.trans (b11.mono bel10.size)
  replace hB6 := hB6.next b11
  replace hB7 := hB7.next b11
  replace hB9 := hB9.next b11
  replace hF := hF.next b11
  rw [show (NM.dev0 (Int.toNat 40)).openH = (HM.none4, 5) from NM.open_dev0 40 (by omega)]
  simp -implicitDefEqProofs [go_sem, ↓stShape HM.none4]
  generalize hw12 : World.alloc w11 _ = w12 at *
  obtain ⟨hB12, b12, sz12⟩ := new_facts hw12
  have bel12 := bel11.trans (b12.mono bel11.size)
  replace hB6 := hB6.next b12
  replace hB7 := hB7.next b12
  replace hB9 := hB9.next b12
  replace hF := hF.next b12
  simp -implicitDefEqProofs [go_sem, hB6.cell, hB7.cell, hB9.cell, shapeC_0, shapeC_1, shapeC_2, shapeC_3]
  have h0 : ∀ z, 0 ≤ z → z ≤ 1024 → I64 z := fun z h1 h2 => by unfold I64; omega
  refine callE_of (headWords_calls ⟨19, 1, 128, 192⟩ w12 ⟨h0 19 (by omega) (by omega), h0 1 (by omega) (by omega), h0 128 (by omega) (by omega), h0 192 (by omega) (by omega)⟩ hF) ?_
  rintro v w13 ⟨b13, a13, c13, rfl, hin13, hnew13⟩
  have bel13 := bel12.trans (b13.mono bel12.size)
  have hl : (HM.words ⟨19, 1, 128, 192⟩).length = 8 := by
    have := HM.words_len (n := 19) (by omega) (by omega)
    have e : HM.shapeOf ((19 : Nat) : Int) = ⟨19, 1, 128, 192⟩ := by
      have := (HM.of_nat (n := 19) (by omega) (by omega)).2
      rw [← this]; exact congrArg (·.1) of_19
    rw [e] at this
    exact this
  simp -implicitDefEqProofs [go_sem, hl]
  refine body_tmp 0 rfl ?_
  simp -implicitDefEqProofs [go_sem]
  exact bel13
end
end Go.Proofs.YtfppphmlepdopaaDoor
