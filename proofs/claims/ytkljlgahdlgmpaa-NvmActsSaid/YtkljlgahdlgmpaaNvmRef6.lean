/- The document's device: Fence. -/
import Derived.Test.YtkljlgahdlgmpaaNvmRef5
namespace Go.Proofs.Ytkljlgahdlgmpaa
set_option linter.unusedVariables false
set_option linter.unusedSimpArgs false
open Go Go.RowKit

theorem LstV.drop {w : World} {F : Nat → Prop} {g o c m : Nat} {bs : List (List (BitVec 8))} (h : LstV w F (.slice (some ⟨g, o, none⟩) m c) bs) {k : Nat} (hk : k < m) :
    LstV w F (.slice (some ⟨g, o + k, none⟩) (m - k) (c - k)) (bs.drop k) := by
  obtain ⟨g', o', c', vs, hv, hF, h0, hl, hin, hc⟩ := h
  simp only [Value.slice.injEq, Option.some.injEq, Addr.mk.injEq, and_true] at hv
  obtain ⟨⟨rfl, rfl⟩, rfl, rfl⟩ := hv
  have hle := hin.le
  have hmx := hin.max
  refine ⟨g, o + k, c - k, vs.drop k, by simp, hF, by simp; omega, by simp; omega, ⟨.inr ⟨g, o + k, rfl, fun i hi => ?_⟩, by simp; omega, by omega, fun h => by cases h⟩, fun i hi => ?_⟩
  · have h1 := hin.at_.at2 (j := k + i) (by simp at hi; omega)
    rw [Nat.add_assoc, h1]
    simp at hi
    simp [List.getD, show k + i < vs.length by omega]
  · have h1 := hc (k + i) (by simp at hi; omega)
    have e1 : (vs.drop k).getD i undef = vs.getD (k + i) undef := by simp [List.getD]
    have e2 : (bs.drop k).getD i [] = bs.getD (k + i) [] := by simp [List.getD]
    rw [e1, e2]; exact h1
section
set_option linter.unusedSimpArgs false
set_option maxHeartbeats 4000000
variable {F : Nat → Prop} {D : NM.Dv}
set_option maxRecDepth 20000 in
theorem rfence_calls (v : Value) (w0 : World) (h : RefV w0 F v D) (hFs : ∀ k, F k → k < w0.heap.size) (hok : D.Ok) (hc40 : D.steps < 1000000) :
    Ret Try.prog 31 #[v] w0 fun u w' => ∃ v', u = .tuple #[v', .int .i64 D.fence.2] ∧ RefV w' F v' D.fence.1 ∧ Below w0.heap.size w0 w' := by
  have bel0 := Below.refl w0.heap.size w0
  have hst := Try.underlying60
  obtain ⟨cv, lf, rfl, hc, hlf, hI⟩ := h
  have hcv := hc.oneC
  have h0 : 0 < D.ls.length := by obtain ⟨_, _, _, _, _, h, _⟩ := hc.open_; exact h
  have hmost := hok.most
  refine ret_of (args := [_]) _ Try.func31 rfl Try.ntmps31 (by simp) ?_
  simp -implicitDefEqProofs [go_sem, devC]
  generalize hw1 : World.alloc w0 _ = w1 at *
  obtain ⟨hB1, b1, sz1⟩ := new_facts hw1
  have bel1 := bel0.trans (b1.mono bel0.size)
  generalize hw2 : World.alloc w1 _ = w2 at *
  obtain ⟨hB2, b2, sz2⟩ := new_facts hw2
  have bel2 := bel1.trans (b2.mono bel1.size)
  replace hB1 := hB1.next b2
  have hB2p := hB2
  rw [sz1] at hB2p
  cases hd : D.down
  · have ha : D.ask 0 1 = 0 := by
      unfold NM.Dv.ask NM.Dv.size
      rw [if_neg (by omega), if_neg (by rw [hd]; simp), if_neg]
      rw [Int.tmod_one]; omega
    have hfl : D.fence = (({ D with ls := D.ls.map NM.Ln.fence } : NM.Dv).done, 0) := by unfold NM.Dv.fence; rw [if_pos ha]
    obtain ⟨P, hP⟩ : ∃ P : Nat → Prop, P = fun k => F k ∨ (w0.heap.size ≤ k ∧ k ≤ w1.heap.size) := ⟨_, rfl⟩
    have tP : Turn w0 F w0 P := ⟨Mod.refl _ _, fun k hk => by rw [hP] at hk; rcases hk with h | h; exact .inl h; exact .inr h.1⟩
    have hPlt : ∀ k, P k → k < w2.heap.size := fun k hk => by
      rw [hP] at hk
      rcases hk with h | h
      · have := hFs k h; have := bel2.size; omega
      · have := sz2; omega
    have hPF : ∀ k, F k → P k := fun k hk => by rw [hP]; exact .inl hk
    have hP0 : ∀ k, w0.heap.size ≤ k → k ≤ w1.heap.size → P k := fun k h1 h2 => by rw [hP]; exact .inr ⟨h1, h2⟩
    have hlf' := hlf hd
    subst hlf'
    have hcP := (hc.turn tP).next bel2
    simp -implicitDefEqProofs [go_sem, hB1.cell, hd]
    refine wpE_loop (fun e' w' => ∃ (i : Nat) (cv' : Value), i ≤ D.ls.length ∧ e' 1 = .pointer (some ⟨w0.heap.size, 0, none⟩) ∧ e' 2 = .pointer (some ⟨w0.heap.size + 1, 0, none⟩) ∧ e' 4 = .int .i64 i ∧
      Blk w' w0.heap.size #[cv', .bool false, .int .i64 D.left, .int .i64 D.steps] 60 ∧ Blk w' (w0.heap.size + 1) #[.slice none 0 0, .bool false, .int .i64 0, .int .i64 0] 60 ∧
      CellsV w' P cv' ((fenceK D i).ls.map lineR) ∧ Below w0.heap.size w0 w' ∧ w2.heap.size ≤ w'.heap.size) (fun e' _ => D.ls.length - (intOf (e' 4)).toNat) ?_ ?_
    · refine ⟨0, cv, by omega, ?_⟩
      rw [fenceK_zero]
      simp -implicitDefEqProofs [go_sem]
      exact ⟨by simpa [hd] using hB1, hB2p, hcP, bel2⟩
    · rintro e' w5 ⟨i, cv', hi, g1, g2, g4, hB1', hB2', hc5, bel5, hsz5⟩
      have hcv5 := hc5.oneC
      have hlenK := fenceK_len D i hi
      obtain ⟨g, o, c, xs, rfl, _, hle, hmx, hglt, hcell⟩ := hc5.open_
      rw [hlenK] at hle hcell hB1' hc5
      by_cases hlt : i < D.ls.length
      · have hlt' : (i : Int) < D.ls.length := by omega
        have kw1 := IntWalk.i64_in ((i : Int) + 1) (by omega)
        obtain ⟨c1, c2, hL⟩ := hcell i hlt
        have hLone := hL.oneC
        have hnl := NM.Dv.Ok0.ln hok.to0 i
        have hchg := NM.Dv.Ok.lnChg hok i
        rw [fenceK_ln D i hlt] at c2 hL
        have hsucc := fenceK_succ D i hlt
        rw [fenceK_ln D i hlt] at hsucc
        have hstC := stNew (P := Try.prog) (t := 100) (ty := 100) (cs := #[xs i, .int .i64 ((D.ln i).mark - 1)]) (C0 := #[.slice none 0 0, .int .i64 0]) rcellI2 rfl (by intro v hv; simp at hv; rcases hv with rfl | rfl <;> first | exact hLone | rfl)
        have tc : Turn w5 P w5 (fun k => P k ∨ k = w5.heap.size) := turn_wide (Nat.le_refl _)
        by_cases hm : 0 < (D.ln i).mark
        · have hm1 : (0 : Int) ≤ ((D.ln i).mark : Int) - 1 := by omega
          have hm2 : (1 : Int) ≤ ((D.ln i).mark : Int) := by omega
          have hmk := hnl.mark
          obtain ⟨k, hk⟩ : ∃ k, k = (D.ln i).mark - 1 := ⟨_, rfl⟩
          have hkm : ((D.ln i).mark : Int) - 1 = (k : Int) := by omega
          rw [hkm] at hstC c2
          have hL0 := hL
          obtain ⟨g2', o2, cc, hx, hcc, hccm⟩ := hL.shape
          rw [hx, NM.conts_len] at hstC c1 hL0
          rw [NM.conts_len] at hcc
          have hdr := (hL0.turn tc).drop (k := k) (by omega)
          rw [hk, ← NM.conts_fence _ hm hmk, ← hk] at hdr
          have n1 : (0 : Int) ≤ k := by omega
          have n2 : (k : Int) ≤ ((D.ln i).chg.length : Int) + 1 := by omega
          have n3 : ¬ cc = k := by omega
          simp -implicitDefEqProofs [go_sem, g1, g2, g4, hB1'.cell, hlt, hlt', c1, c2, n1, n2, n3, ↓hstC]
          have bel5a := bel5
          have hB1a := hB1'.alloc (.cells #[.slice (some ⟨g2', o2 + k, none⟩) ((D.ln i).chg.length + 1 - k) (cc - k), .int .i64 (-1)] 100)
          have hB2a := hB2'.alloc (.cells #[.slice (some ⟨g2', o2 + k, none⟩) ((D.ln i).chg.length + 1 - k) (cc - k), .int .i64 (-1)] 100)
          simp -implicitDefEqProofs [go_sem, hB1a.cell, g4, g1]
          have hRL : (⟨NM.conts (D.ln i).fence, -1⟩ : RL) = lineR (D.ln i).fence := by
            unfold lineR NM.Ln.fence; rw [if_pos hm]; rfl
          generalize hw6 : World.alloc w5 _ = w6 at *
          obtain ⟨hB6, b6, sz6⟩ := new_facts hw6
          have bel6 := bel5.trans (b6.mono bel5.size)
          have hwi := rwith_calls (fun k => P k ∨ k = w5.heap.size) _ ((fenceK D i).ls.map lineR) i _ ⟨NM.conts (D.ln i).fence, -1⟩ false D.left D.steps w6 (fun k hk => by rcases hk with hk | hk; have := hPlt k hk; omega; omega) ((hc5.turn tc).next b6) (by rw [List.length_map, hlenK]; exact hlt) (hdr.next b6) (by rw [List.length_map, hlenK]; omega)
          simp only [devC] at hwi
          refine callE_of hwi ?_
          rintro u w7 ⟨cv7, rfl, hc7, b7⟩
          rw [hRL, ← map_setLn, hsucc] at hc7
          have bel7 := bel6.trans (b7.mono bel6.size)
          have hcv7 := hc7.oneC
          have hB1b := hB1a.next b7
          have hB2b := hB2a.next b7
          have hsB := stAll (P := Try.prog) (ty := 60) (cs := devC cv7 false D.left D.steps) hB1b (rdevI _ _ _ _) rfl (devC_one hcv7 _ _ _)
          unfold devC at hsB
          simp -implicitDefEqProofs [go_sem, g1, g4, kw1, ↓hsB]
          refine goE_round ⟨i + 1, cv7, by omega, ?_, ?_, ?_, hB1b.row _, hB2b.rowOther (by omega) _, hc7.turn ⟨(Mod.refl _ _).row (.inl (.inl (hP0 w0.heap.size (Nat.le_refl _) (by omega)))) _, fun k hk => .inl (.inl hk)⟩, Below.row bel7 (Nat.le_refl _) _, ?_⟩ ?_
          · simp -implicitDefEqProofs [go_sem, g1]
          · simp -implicitDefEqProofs [go_sem, g2]
          · simp -implicitDefEqProofs [go_sem]
          · have := b7.size; simp; omega
          · simp -implicitDefEqProofs [go_sem, intOf, g4]; omega
        · have hmz : (D.ln i).mark = 0 := by omega
          have hfz : (D.ln i).fence = D.ln i := by unfold NM.Ln.fence; rw [if_neg hm]
          have hsame : fenceK D (i + 1) = fenceK D i := by
            rw [← hsucc, hfz, ← fenceK_ln D i hlt, setLn_same _ _ (by rw [hlenK]; exact hlt)]
          rw [hmz] at hstC c2
          have hm1 : ¬ (0 : Int) ≤ ((0 : Nat) : Int) - 1 := by decide
          simp -implicitDefEqProofs [go_sem, g1, g2, g4, hB1'.cell, hlt, hlt', c1, c2, kw1, ↓hstC]
          generalize hw6 : World.alloc w5 _ = w6 at *
          obtain ⟨hB6, b6, sz6⟩ := new_facts hw6
          have bel6 := bel5.trans (b6.mono bel5.size)
          refine goE_round ⟨i + 1, _, by omega, ?_, ?_, ?_, hB1'.next b6, hB2'.next b6, ?_, bel6, by omega⟩ ?_
          · simp -implicitDefEqProofs [go_sem, g1]
          · simp -implicitDefEqProofs [go_sem, g2]
          · simp -implicitDefEqProofs [go_sem]
          · rw [hsame]; exact hc5.next b6
          · simp -implicitDefEqProofs [go_sem, intOf, g4]; omega
      · have hi' : i = D.ls.length := by omega
        have hlt' : ¬ (i : Int) < D.ls.length := by omega
        subst hi'
        obtain ⟨E0, hE0⟩ : ∃ E0 : NM.Dv, E0 = { D with ls := D.ls.map NM.Ln.fence } := ⟨_, rfl⟩
        have e1 : E0.down = false := by rw [hE0]; exact hd
        have e2 : E0.left = D.left := by rw [hE0]
        have e3 : E0.steps = D.steps := by rw [hE0]
        rw [fenceK_all, ← hE0] at hc5
        rw [← hE0] at hfl
        have hdn := rdone_calls (.slice (some ⟨g, o, none⟩) D.ls.length c) E0 w5 rfl e1 (by rw [e2]; exact hok.left) (by rw [e3]; omega)
        simp only [devC] at hdn
        rw [e1, e2, e3] at hdn
        have hI2 : I64 E0.done.left := by
          have := hok.left
          show I64 (if 0 < E0.left then E0.left - 1 else E0.left)
          rw [e2]
          unfold I64; split <;> omega
        simp -implicitDefEqProofs [go_sem, g1, g2, g4, hB1'.cell, hlt']
        refine callE_of hdn ?_
        rintro u w6 ⟨rfl, b6⟩
        have bel6 := bel5.trans (b6.mono bel5.size)
        replace hB2' := hB2'.next b6
        have hcE : CellsV w6 P (.slice (some ⟨g, o, none⟩) D.ls.length c) (E0.done.ls.map lineR) := hc5.next b6
        generalize E0.done = E at *
        have hs5 := stAll (P := Try.prog) (ty := 60) (cs := devC (.slice (some ⟨g, o, none⟩) D.ls.length c) E.down E.left E.steps) hB2' (rdevI _ _ _ _) rfl (devC_one rfl _ _ _)
        unfold devC at hs5
        simp -implicitDefEqProofs [go_sem, g1, g2, ↓hs5]
        refine bodyCell 2 3 rfl (by simp -implicitDefEqProofs [go_sem, g2]) (hB2'.row _) hst rfl (rdevI _ E.down E.left E.steps) ?_
        simp -implicitDefEqProofs [go_sem, hfl]
        exact ⟨⟨_, E.left, rfl, hcE.turn ⟨(Mod.refl _ _).row (.inl (hP0 (w0.heap.size + 1) (by omega) (by omega))) _, fun k hk => .inl (hPF k hk)⟩, fun _ => rfl, hI2⟩, Below.row bel6 (by omega) _⟩
  · have ha := NM.ask_down h0 hd 0 1
    have hfl : D.fence = (D, 12) := by unfold NM.Dv.fence; rw [ha]; rfl
    have hsA := stAll (P := Try.prog) (ty := 60) (cs := devC cv true lf D.steps) hB2p (rdevI _ _ _ _) rfl (devC_one hcv _ _ _)
    unfold devC at hsA
    have belF := Below.row bel2 (g := w0.heap.size + 1) (by omega) (devC cv true lf D.steps)
    simp -implicitDefEqProofs [go_sem, hB1.cell, hB1.thaw, hd, ↓hsA]
    refine bodyCell 2 3 rfl (by simp -implicitDefEqProofs [go_sem]) (hB2p.row _) hst rfl (rdevI cv true lf D.steps) ?_
    simp -implicitDefEqProofs [go_sem, hfl]
    exact ⟨⟨cv, lf, by rw [hd]; rfl, hc.next belF, hlf, hI⟩, belF⟩
end
end Go.Proofs.Ytkljlgahdlgmpaa
