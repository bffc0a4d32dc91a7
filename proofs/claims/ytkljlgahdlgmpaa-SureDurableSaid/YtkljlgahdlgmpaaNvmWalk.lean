/- A device's calls: walks. -/
import Derived.Test.YtkljlgahdlgmpaaNvmMem
namespace Go.Proofs.Ytkljlgahdlgmpaa
open Go Go.RowKit

theorem Blk.eq' {w : World} {b : Nat} {C C' : Array Value} {e : TypeId} (h : Blk w b C e) (hC : C = C') : Blk w b C' e := hC ▸ h
theorem decide_beq (z : Int) : (z == 0) = decide (z = 0) := by rw [Bool.eq_iff_iff, beq_iff_eq, decide_eq_true_iff]
/-- A place that is one. -/
theorem ask8 {D : NM.Dv} {off : Int} (hp : 0 < D.ls.length) (h : D.ask off 8 = 0) : ∃ o : Nat, off = (o : Int) ∧ o % 8 = 0 ∧ o < D.size := by
  unfold NM.Dv.ask at h
  rw [if_neg (by omega)] at h
  split at h
  · cases h
  · split at h
    · cases h
    · rename_i h3
      have h4 : 0 ≤ off := by
        apply Classical.byContradiction; intro h4; exact h3 (.inl (by omega))
      obtain ⟨o, rfl⟩ := Int.eq_ofNat_of_zero_le h4
      refine ⟨o, rfl, ?_, ?_⟩
      · have h5 : (o : Int).tmod 8 = 0 := by
          apply Classical.byContradiction; intro h5; exact h3 (.inr (.inr h5))
        rw [Int.tmod_eq_emod_of_nonneg h4] at h5; omega
      · apply Classical.byContradiction; intro h5; exact h3 (.inr (.inl (by omega)))

set_option linter.unusedSimpArgs false in
theorem ask_calls {p lb : Nat} {D : NM.Dv} {S : Nat → Spot} (off each : Int) (w : World) (h : DevAt w p lb D S) (he : 0 < each) :
    Ret Try.prog 44 #[.pointer (some ⟨p, 0, none⟩), .int .i64 off, .int .i64 each] w fun v w' => v = .int .i64 (D.ask off each) ∧ w' = w := by
  have hpos := h.pos
  have hl0 : ¬ D.ls.length = 0 := by omega
  have hs0 : ((D.size : Int) == 0) = false := by rw [beq_eq_false_iff_ne]; unfold NM.Dv.size; omega
  have hs0' : ¬ D.size = 0 := by unfold NM.Dv.size; omega
  have he0 : ¬ each = 0 := by omega
  refine ret_of (args := [_, _, _]) _ Try.func44 rfl Try.ntmps44 (by simp) ?_
  simp -implicitDefEqProofs [go_sem]
  refine callE_of (size_calls w h) ?_
  rintro v w1 ⟨rfl, rfl⟩
  cases hd : D.down
  · by_cases h1 : off < 0
    · simp -implicitDefEqProofs [go_sem, hs0, hs0', h.dev.cell, hd, h1]
      refine body_tmp 6 rfl ?_
      simp -implicitDefEqProofs [go_sem, NM.Dv.ask, hl0, hd, h1]
    · simp -implicitDefEqProofs [go_sem, hs0, hs0', h.dev.cell, hd, h1]
      refine callE_of (size_calls w1 h) ?_
      rintro v w2 ⟨rfl, rfl⟩
      by_cases h2 : (D.size : Int) ≤ off
      · simp -implicitDefEqProofs [go_sem, h2]
        refine body_tmp 6 rfl ?_
        simp -implicitDefEqProofs [go_sem, NM.Dv.ask, hl0, hd, h1, h2]
      · by_cases h3 : off.tmod each = 0
        · have h3' : (off.tmod each != 0) = false := by rw [bne_eq_false_iff_eq]; exact h3
          simp -implicitDefEqProofs [go_sem, h2, he0, h3']
          refine body_tmp 6 rfl ?_
          simp -implicitDefEqProofs [go_sem, NM.Dv.ask, hl0, hd, h1, h2, h3]
        · have h3' : (off.tmod each != 0) = true := by rw [bne_iff_ne]; exact h3
          simp -implicitDefEqProofs [go_sem, h2, he0, h3']
          refine body_tmp 6 rfl ?_
          simp -implicitDefEqProofs [go_sem, NM.Dv.ask, hl0, hd, h1, h2, h3]
  · simp -implicitDefEqProofs [go_sem, hs0, hs0', h.dev.cell, hd]
    refine body_tmp 6 rfl ?_
    simp -implicitDefEqProofs [go_sem, NM.Dv.ask, hl0, hd]

set_option linter.unusedSimpArgs false in
theorem done_calls {p lb : Nat} {D : NM.Dv} {S : Nat → Spot} (w : World) (h : DevAt w p lb D S) (hst : D.steps < 1099511627776) :
    Ret Try.prog 45 #[.pointer (some ⟨p, 0, none⟩)] w fun v w' => v = .tuple #[] ∧ DevAt w' p lb D.done S ∧ Mod (fun k => k = p) w w' ∧ w'.heap.size = w.heap.size := by
  have hw := IntWalk.i64_in ((D.steps : Int) + 1) (by omega)
  have hl := h.ok.left
  have hw2 := IntWalk.i64_in (D.left - 1) (by omega)
  have hB := h.dev
  have hB1 := hB.set 3 (.int .i64 ((D.steps : Int) + 1))
  have hm1 := (Mod.refl (fun k => k = p) w).setCell (a := ⟨p, 3, none⟩) (.inl rfl) (.int .i64 ((D.steps : Int) + 1))
  refine ret_of (args := [_]) _ Try.func45 rfl Try.ntmps45 (by simp) ?_
  by_cases h0 : 0 < D.left
  · have hB2 := hB1.set 2 (.int .i64 (D.left - 1))
    have hm2 := hm1.setCell (a := ⟨p, 2, none⟩) (.inl rfl) (.int .i64 (D.left - 1))
    have hB3 := hB2.set 1 (.bool (D.left - 1 == 0))
    have hm3 := hm2.setCell (a := ⟨p, 1, none⟩) (.inl rfl) (.bool (D.left - 1 == 0))
    simp -implicitDefEqProofs [go_sem, hB.cell, hB.thaw, hw, hw2, h0]
    refine body_end (body_none rfl ?_)
    refine ⟨rfl, h.head (D' := D.done) ?_ hm3 rfl (NM.Dv.Ok0.done h.ok), hm3, by simp [World.setCell]⟩
    have e : D.done = ⟨D.ls, decide (D.left - 1 = 0), D.left - 1, D.steps + 1⟩ := by simp [NM.Dv.done, h0]
    rw [e]
    refine (show Blk _ p _ _ from hB3).eq' ?_
    simp [decide_beq]
  · simp -implicitDefEqProofs [go_sem, hB.cell, hB.thaw, hw, hw2, h0]
    refine body_end (body_none rfl ?_)
    refine ⟨rfl, h.head (D' := D.done) ?_ hm1 rfl (NM.Dv.Ok0.done h.ok), hm1, by simp [World.setCell]⟩
    have e : D.done = ⟨D.ls, D.down, D.left, D.steps + 1⟩ := by simp [NM.Dv.done, h0]
    rw [e]
    refine (show Blk _ p _ _ from hB1).eq' ?_
    simp

set_option linter.unusedSimpArgs false in
theorem load_calls {p lb : Nat} {D : NM.Dv} {S : Nat → Spot} (off : Int) (w : World) (h : DevAt w p lb D S) (ho : I64 off) :
    Ret Try.prog 23 #[.pointer (some ⟨p, 0, none⟩), .int .i64 off] w fun v w' => v = .tuple #[.int .u64 (uv (D.load off).1), .int .i64 (D.load off).2] ∧ w' = w := by
  obtain ⟨ho1, ho2⟩ := ho
  refine ret_of (args := [_, _]) _ Try.func23 rfl Try.ntmps23 (by simp) ?_
  simp -implicitDefEqProofs [go_sem]
  refine callE_of (ask_calls off 8 w h (by decide)) ?_
  rintro v w1 ⟨rfl, rfl⟩
  by_cases ha : D.ask off 8 = 0
  · obtain ⟨o, rfl, ho8, hos⟩ := ask8 h.pos ha
    have hQ : o / 64 < D.ls.length := by unfold NM.Dv.size at hos; omega
    have hnow := h.now hQ
    have hl := (NM.Dv.Ok0.ln h.ok (o / 64)).len
    have hgc := get_calls (some ⟨lb, o / 64 * 66, none⟩) (D.ln (o / 64)).now 64 64 ((o % 64 : Nat) : Int) w1 hl (by decide) hnow.at_
    have hhas : WM.hasB 64 ((o % 64 : Nat) : Int) = true := by unfold WM.hasB; rw [decide_eq_true_iff]; omega
    rw [hhas, if_pos rfl, Int.toNat_natCast] at hgc
    have hwq : IntKind.i64.wrap ((o : Int) / 64) = ((o / 64 : Nat) : Int) := by rw [IntWalk.i64_in _ (by omega)]; rfl
    have hwr : (o : Int).tmod 64 = ((o % 64 : Nat) : Int) := by rw [Int.tmod_eq_emod_of_nonneg (by omega)]; rfl
    have hQ' : ((o / 64 : Nat) : Int) < D.ls.length := by omega
    have hld : D.load (o : Int) = (D.word o, 0) := by unfold NM.Dv.load; rw [if_pos ha, Int.toNat_natCast]
    have hwd : D.word o = WM.getM (D.ln (o / 64)).now (o % 64) := rfl
    rw [hld, hwd]
    generalize o / 64 = Q at *
    generalize o % 64 = T at *
    simp -implicitDefEqProofs [go_sem, ha, h.dev.cell, hwq, hwr, hQ, hQ']
    refine callE_of hgc ?_
    rintro v w2 ⟨rfl, rfl⟩
    simp -implicitDefEqProofs [go_sem]
    refine body_tmp2 4 5 rfl ?_
    simp -implicitDefEqProofs [go_sem]
  · have ha' : (D.ask off 8 != 0) = true := by rw [bne_iff_ne]; exact ha
    simp -implicitDefEqProofs [go_sem, ha, ha']
    refine body_tmp2 4 5 rfl ?_
    simp -implicitDefEqProofs [go_sem, NM.Dv.load, ha, show uv 0#64 = 0 from rfl]
end Go.Proofs.Ytkljlgahdlgmpaa
