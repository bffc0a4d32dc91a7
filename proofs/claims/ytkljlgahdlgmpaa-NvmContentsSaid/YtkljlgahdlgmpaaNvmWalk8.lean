/- Fence: its walk. -/
import Derived.Test.YtkljlgahdlgmpaaNvmWalk7
namespace Go.Proofs.Ytkljlgahdlgmpaa
open Go Go.RowKit

def fenceK (D : NM.Dv) (k : Nat) : NM.Dv := { D with ls := (D.ls.take k).map NM.Ln.fence ++ D.ls.drop k }
theorem fenceK_zero (D : NM.Dv) : fenceK D 0 = D := by simp [fenceK]
theorem fenceK_all (D : NM.Dv) : fenceK D D.ls.length = { D with ls := D.ls.map NM.Ln.fence } := by simp [fenceK]
theorem fenceK_len (D : NM.Dv) (k : Nat) (hk : k ≤ D.ls.length) : (fenceK D k).ls.length = D.ls.length := by simp [fenceK]; omega
theorem fenceK_ln (D : NM.Dv) (k : Nat) (hk : k < D.ls.length) : (fenceK D k).ln k = D.ln k := by
  unfold NM.Dv.ln fenceK
  simp only [List.getD_eq_getElem?_getD]
  rw [List.getElem?_append_right (by simp; omega)]
  simp; congr 2; omega
theorem fenceK_succ (D : NM.Dv) (k : Nat) (hk : k < D.ls.length) : (fenceK D k).setLn k ((fenceK D k).ln k).fence = fenceK D (k + 1) := by
  rw [fenceK_ln D k hk]
  have e : D.ln k = D.ls[k] := by simp [NM.Dv.ln, List.getD, hk]
  unfold NM.Dv.setLn fenceK
  simp only [NM.Dv.mk.injEq, and_true]
  rw [List.set_append_right _ _ (by simp; omega), List.take_succ_eq_append_getElem hk, List.map_append, List.append_assoc]
  congr 1
  have hl : ((D.ls.take k).map NM.Ln.fence).length = k := by simp; omega
  rw [hl, Nat.sub_self, List.drop_eq_getElem_cons hk, e]; rfl

set_option maxHeartbeats 1000000 in
set_option linter.unusedSimpArgs false in
theorem fence_calls {p lb : Nat} {D : NM.Dv} {S : Nat → Spot} (w0 : World) (h : DevAt w0 p lb D S) (hc : D.steps < 1099511627776) (hok : D.Ok) :
    Ret Try.prog 18 #[.pointer (some ⟨p, 0, none⟩)] w0 fun v w' => v = .int .i64 D.fence.2 ∧ DevStep w0 p lb D S D.fence.1 w' := by
  have hmost := h.ok.most
  refine ret_of (args := [_]) _ Try.func18 rfl Try.ntmps18 (by simp) ?_
  simp -implicitDefEqProofs [go_sem]
  refine callE_of (ask_calls 0 1 w0 h (by decide)) ?_
  rintro v w1 ⟨rfl, rfl⟩
  by_cases ha : D.ask 0 1 = 0
  · have hfn : D.fence = (({ D with ls := D.ls.map NM.Ln.fence } : NM.Dv).done, 0) := by unfold NM.Dv.fence; rw [if_pos ha]
    simp -implicitDefEqProofs [go_sem, ha, h.dev.cell]
    refine wpE_loop (fun e' w' => ∃ k, k ≤ D.ls.length ∧ e' 0 = .pointer (some ⟨p, 0, none⟩) ∧ e' 14 = .int .i64 D.ls.length ∧ e' 15 = .int .i64 k ∧ DevStep w1 p lb D S (fenceK D k) w') (fun e' _ => D.ls.length - (intOf (e' 15)).toNat) ?_ ?_
    · refine ⟨0, by omega, ?_⟩
      simp -implicitDefEqProofs [go_sem, fenceK_zero]
      exact DevStep.refl h
    · rintro e' w' ⟨k, hk, g0, g14, g15, S', hA, hm, hw⟩
      have hlk := fenceK_len D k hk
      by_cases hlt : k < D.ls.length
      · have hlt' : (k : Int) < D.ls.length := by omega
        have hwk := IntWalk.i64_in ((k : Int) + 1) (by omega)
        have hdev := hA.dev
        rw [hlk] at hdev
        have hlf := lfence_calls k w' hA (by omega) (by rw [fenceK_ln D k hlt]; have := NM.Dv.Ok.lnChg hok k; omega)
        simp -implicitDefEqProofs [go_sem, g0, g14, g15, hlt, hlt', hdev.cell]
        refine callE_of hlf ?_
        rintro v w2 ⟨rfl, s', hA2, hm2, hwh2⟩
        rw [fenceK_succ D k hlt] at hA2
        simp -implicitDefEqProofs [go_sem, g0, g14, g15, hwk]
        refine goE_round ⟨k + 1, by omega, ?_⟩ ?_
        · simp -implicitDefEqProofs [go_sem, g0, g14]
          refine DevStep.head hA hm hw ⟨_, hA2, hm2.mono (fun k hk _ => .inr (.inl hk)), ?_⟩
          have := setLine_F (p := p) (lb := lb) (D := fenceK D k) (S := S') (i := k) (l' := ((fenceK D k).ln k).fence) (s' := s') (w := w') (by omega) hwh2
          rw [fenceK_succ D k hlt] at this
          exact this
        · simp -implicitDefEqProofs [go_sem, intOf, g15, hwk]; omega
      · have hk' : k = D.ls.length := by omega
        subst hk'
        rw [fenceK_all] at *
        simp -implicitDefEqProofs [go_sem, g0, g14, g15]
        refine callE_of (done_calls w' hA (by exact hc)) ?_
        rintro v w2 ⟨rfl, hA2, hmd, _⟩
        simp -implicitDefEqProofs [go_sem]
        refine body_tmp 2 rfl ?_
        simp -implicitDefEqProofs [go_sem, hfn]
        exact DevStep.head hA hm hw (step_done hA2 hmd)
  · have ha' : (D.ask 0 1 != 0) = true := by rw [bne_iff_ne]; exact ha
    simp -implicitDefEqProofs [go_sem, ha, ha']
    refine body_tmp 2 rfl ?_
    simp -implicitDefEqProofs [go_sem, NM.Dv.fence, ha]
    exact DevStep.refl h
end Go.Proofs.Ytkljlgahdlgmpaa
