/- The document's device: with. -/
import Derived.Test.YtkljlgahdlgmpaaNvmRef2
namespace Go.Proofs.Ytkljlgahdlgmpaa
set_option linter.unusedVariables false
set_option linter.unusedSimpArgs false
open Go Go.RowKit

theorem CellsV.one {w : World} {F : Nat → Prop} {n : Nat} {xs : List Value} {rs : List RL} (hxl : xs.length = 2 * rs.length)
    (hl : ∀ i, i < rs.length → LstV w F (xs.getD (2 * i) undef) (rs.getD i default).L ∧ xs.getD (2 * i + 1) undef = .int .i64 (rs.getD i default).mark) : ∀ u ∈ xs, u.oneCell' = true := by
  intro u hu
  obtain ⟨j, hj, rfl⟩ := List.getElem_of_mem hu
  have h := hl (j / 2) (by omega)
  by_cases h2 : j % 2 = 0
  · obtain ⟨g, o, c, vs, hv, _⟩ := h.1
    rw [show 2 * (j / 2) = j by omega] at hv
    have e : xs[j] = xs.getD j undef := by simp [List.getD, hj]
    rw [e, hv]; rfl
  · have hv := h.2
    rw [show 2 * (j / 2) + 1 = j by omega] at hv
    have e : xs[j] = xs.getD j undef := by simp [List.getD, hj]
    rw [e, hv]; rfl
theorem LstV.oneC {w : World} {F : Nat → Prop} {v : Value} {bs : List (List (BitVec 8))} (h : LstV w F v bs) : v.oneCell' = true := by
  obtain ⟨g, o, c, vs, rfl, _⟩ := h; rfl
theorem CellsV.oneC {w : World} {F : Nat → Prop} {v : Value} {rs : List RL} (h : CellsV w F v rs) : v.oneCell' = true := by
  obtain ⟨g, o, c, xs, rfl, _⟩ := h; rfl
set_option linter.unusedSimpArgs false in
set_option maxRecDepth 20000 in
set_option maxHeartbeats 1000000 in
theorem rwith_calls (F : Nat → Prop) (cv : Value) (rs : List RL) (i : Nat) (lv : Value) (r : RL) (dn : Bool) (lf st : Int) (w0 : World) (hFs : ∀ k, F k → k < w0.heap.size) (hc : CellsV w0 F cv rs) (hi : i < rs.length) (hl : LstV w0 F lv r.L) (hn : rs.length ≤ 1100) :
    Ret Try.prog 51 #[.agg (devC cv dn lf st), .int .i64 (i : Int), .agg #[lv, .int .i64 r.mark]] w0 fun v w' => ∃ cv', v = .agg (devC cv' dn lf st) ∧ CellsV w' F cv' (rs.set i r) ∧ Below w0.heap.size w0 w' := by
  have bel0 := Below.refl w0.heap.size w0
  have hst := Try.underlying60
  have hcst := Try.underlying100
  have hlo := hl.oneC
  obtain ⟨ti, tz, hti, htz, hts, htb, htc⟩ := rcellI
  obtain ⟨g, o, c, xs, rfl, hF, h0, hxl, hin, hle, hmx, hls⟩ := hc
  refine ret_of (args := [_, _, _]) _ Try.func51 rfl Try.ntmps51 (by simp) ?_
  simp -implicitDefEqProofs [go_sem, devC]
  generalize hw1 : World.alloc w0 _ = w1 at *
  obtain ⟨hB1, b1, sz1⟩ := new_facts hw1
  have bel1 := bel0.trans (b1.mono bel0.size)
  generalize hw2 : World.alloc w1 _ = w2 at *
  obtain ⟨hB2, b2, sz2⟩ := new_facts hw2
  have bel2 := bel1.trans (b2.mono bel1.size)
  replace hB1 := hB1.next b2
  generalize hw3 : World.alloc w2 _ = w3 at *
  obtain ⟨hB3, b3, sz3⟩ := new_facts hw3
  have bel3 := bel2.trans (b3.mono bel2.size)
  replace hB1 := hB1.next b3
  replace hB2 := hB2.next b3
  have hone := CellsV.one (n := 0) hxl hls
  obtain ⟨x, hx, hsrc⟩ : ∃ x, some (⟨g, o, none⟩ : Addr) = some x ∧ ∀ j u, xs[j]? = some u → w3.cell? (x.add j) = some u := by
    rcases (hin.next bel3).src with ⟨h, _⟩ | h
    · cases h
    · exact h
  obtain rfl := Option.some.inj hx
  obtain ⟨g', c', w4, hr4, hg4, hown, b4⟩ := copy_lit (t := 58) (m := rs.length) (c := c) Try.underlying58 hti htz hts htb htc (by decide) w3 ⟨g, o, none⟩ (by omega) hsrc hone h0 (by omega) (by decide)
  have e1 : w1.heap.size = w0.heap.size + 1 := sz1
  have e2 : w2.heap.size = w0.heap.size + 1 + 1 := by omega
  have e3 : w3.heap.size = w0.heap.size + 1 + 1 + 1 := by omega
  rw [e3] at hr4
  rw [e1] at hB2
  rw [e2] at hB3
  replace hB1 := hB1.below b4 (by omega)
  replace hB2 := hB2.below b4 (by omega)
  replace hB3 := hB3.below b4 (by omega)
  obtain ⟨g2, C, hg2, _, hBg, hcle, hcmx, hCs, hCx⟩ := owns_row h0 hown
  obtain rfl : g' = g2 := by simpa using hg2
  have hst1 := stE (P := Try.prog) (ty := 100) (o := i * 2) (cs := #[lv, .int .i64 r.mark]) hBg rcellI2 (by simp; omega) (by intro v hv; simp at hv; rcases hv with rfl | rfl <;> first | exact hlo | rfl)
  have q1 := hB1.rowOther (g := g') (by omega) (segPut C (i * 2) #[lv, .int .i64 r.mark])
  have q3 := hB3.rowOther (g := g') (by omega) (segPut C (i * 2) #[lv, .int .i64 r.mark])
  have qg := hBg.row (segPut C (i * 2) #[lv, .int .i64 r.mark])
  have r3 := q3.setOther (a := ⟨w0.heap.size, 0, none⟩) (by simp; omega) (.slice (some ⟨g', 0, none⟩) rs.length c')
  have hst2 := stAll (P := Try.prog) (ty := 60) (cs := #[.slice (some ⟨g', 0, none⟩) rs.length c', .bool dn, .int .i64 lf, .int .i64 st]) r3 (rdevI _ dn lf st) rfl (devC_one rfl _ _ _)
  have i1 : (i : Int) < rs.length := by omega
  simp -implicitDefEqProofs [go_sem, hr4, hB1.cell, hB2.cell, q1.cell, q1.thaw, i1, hi, ↓hst1, ↓hst2]
  refine bodyCell1 6 rfl (by simp -implicitDefEqProofs [go_sem]) (r3.row _) hst rfl (rdevI _ dn lf st) ?_
  have bel4 := bel3.trans (b4.mono bel3.size)
  have belF := Below.row ((Below.row bel4 (g := g') (by omega) (segPut C (i * 2) #[lv, .int .i64 r.mark])).setCell (show w0.heap.size ≤ (⟨w0.heap.size, 0, none⟩ : Addr).block from Nat.le_refl _) (.slice (some ⟨g', 0, none⟩) rs.length c')) (g := w0.heap.size + 1 + 1) (by omega) #[.slice (some ⟨g', 0, none⟩) rs.length c', .bool dn, .int .i64 lf, .int .i64 st]
  refine ⟨.slice (some ⟨g', 0, none⟩) rs.length c', rfl, ?_, belF⟩
  have rg := (qg.setOther (a := ⟨w0.heap.size, 0, none⟩) (by simp; omega) (.slice (some ⟨g', 0, none⟩) rs.length c')).rowOther (g := w0.heap.size + 1 + 1) (by omega) #[.slice (some ⟨g', 0, none⟩) rs.length c', .bool dn, .int .i64 lf, .int .i64 st]
  have hget := segPut_get C (i * 2) #[lv, .int .i64 r.mark] (by simp; omega)
  have hxs' : ((xs.set (2 * i) lv).set (2 * i + 1) (.int .i64 r.mark)).length = 2 * (rs.set i r).length := by simp [hxl]
  refine ⟨g', 0, c', (xs.set (2 * i) lv).set (2 * i + 1) (.int .i64 r.mark), by simp, fun hf => by have := hFs _ hf; omega, by simpa using h0, hxs', vsAt_blk rg fun j hj => ?_, by simpa using hcle, hcmx, fun j hj => ?_⟩
  · have hj' : j < xs.length := by simpa using hj
    rw [hget]
    by_cases h1 : i * 2 ≤ j ∧ j < i * 2 + 2
    · rw [if_pos (by simpa using h1)]
      rcases (show j = 2 * i ∨ j = 2 * i + 1 by omega) with rfl | rfl
      · rw [show 2 * i - i * 2 = 0 by omega]; simp
      · rw [show 2 * i + 1 - i * 2 = 1 by omega]; simp
    · rw [if_neg (by simpa using h1), hCx j hj']
      simp only [List.getElem_set]
      rw [if_neg (by omega), if_neg (by omega)]; simp [hj']
  · have hj' : j < rs.length := by simpa using hj
    by_cases h1 : j = i
    · subst h1
      have a1 : ((xs.set (2 * j) lv).set (2 * j + 1) (.int .i64 r.mark)).getD (2 * j) undef = lv := by
        simp only [List.getD_eq_getElem?_getD, List.getElem?_set]
        rw [if_neg (by omega), if_pos trivial, if_pos (by omega)]; rfl
      have a2 : ((xs.set (2 * j) lv).set (2 * j + 1) (.int .i64 r.mark)).getD (2 * j + 1) undef = .int .i64 r.mark := by
        simp only [List.getD_eq_getElem?_getD, List.getElem?_set]
        rw [if_pos trivial, if_pos (by simp; omega)]; rfl
      have a3 : (rs.set j r).getD j default = r := by simp [List.getD_eq_getElem?_getD, hj']
      rw [a1, a2, a3]
      exact ⟨hl.next belF, rfl⟩
    · have a1 : ((xs.set (2 * i) lv).set (2 * i + 1) (.int .i64 r.mark)).getD (2 * j) undef = xs.getD (2 * j) undef := by
        simp only [List.getD_eq_getElem?_getD, List.getElem?_set]
        rw [if_neg (by omega), if_neg (by omega)]
      have a2 : ((xs.set (2 * i) lv).set (2 * i + 1) (.int .i64 r.mark)).getD (2 * j + 1) undef = xs.getD (2 * j + 1) undef := by
        simp only [List.getD_eq_getElem?_getD, List.getElem?_set]
        rw [if_neg (by omega), if_neg (by omega)]
      have a3 : (rs.set i r).getD j default = rs.getD j default := by
        simp only [List.getD_eq_getElem?_getD, List.getElem?_set]
        rw [if_neg (by omega)]
      rw [a1, a2, a3]
      exact ⟨(hls j hj').1.next belF, (hls j hj').2⟩
end Go.Proofs.Ytkljlgahdlgmpaa
