/- The document's device: May, Load, Stop, Flush, Store. -/
import Derived.Test.YtkljlgahdlgmpaaNvmRef3
namespace Go.Proofs.Ytkljlgahdlgmpaa
set_option linter.unusedVariables false
set_option linter.unusedSimpArgs false
open Go Go.RowKit

/-- The document's device, as the model's is: what is left may differ where it is down. -/
def RefV (w : World) (F : Nat → Prop) (v : Value) (D : NM.Dv) : Prop :=
  ∃ cv lf, v = .agg (devC cv D.down lf D.steps) ∧ CellsV w F cv (D.ls.map lineR) ∧ (D.down = false → lf = D.left) ∧ I64 lf
theorem cell_below {w w' : World} {a : Addr} {v : Value} (h : w.cell? a = some v) (hb : Below w.heap.size w w') : w'.cell? a = some v := (hb.cell (World.block_lt_of_cell? w _ h)).trans h
theorem VsAt.at2 {w : World} {g o : Nat} {xs : List Value} (h : VsAt w (some ⟨g, o, none⟩) xs) {j : Nat} (hj : j < xs.length) : w.cell? ⟨g, o + j, none⟩ = some (xs.getD j undef) := by
  obtain ⟨b, o', h1, h2⟩ := h.cell hj
  simp only [Option.some.injEq, Addr.mk.injEq, and_true] at h1
  obtain ⟨rfl, rfl⟩ := h1
  rw [h2]; simp [List.getD, hj]
theorem map_ln (D : NM.Dv) {i : Nat} (hi : i < D.ls.length) : (D.ls.map lineR).getD i default = lineR (D.ln i) := by
  unfold NM.Dv.ln
  simp [List.getD, hi]
section
variable {w w' : World} {F F' : Nat → Prop} {v : Value} {D : NM.Dv}
theorem RefV.next (h : RefV w F v D) (hb : Below w.heap.size w w') : RefV w' F v D := by
  obtain ⟨cv, lf, hv, hc, hl, hi⟩ := h; exact ⟨cv, lf, hv, hc.next hb, hl, hi⟩
theorem RefV.turn (h : RefV w F v D) (ht : Turn w F w' F') : RefV w' F' v D := by
  obtain ⟨cv, lf, hv, hc, hl, hi⟩ := h; exact ⟨cv, lf, hv, hc.turn ht, hl, hi⟩
/-- What a walk reads of it. -/
theorem CellsV.open_ {cv : Value} (hc : CellsV w F cv (D.ls.map lineR)) :
    ∃ (g o c : Nat) (xs : Nat → Value), cv = .slice (some ⟨g, o, none⟩) D.ls.length c ∧ 0 < D.ls.length ∧ D.ls.length ≤ c ∧ c ≤ 9223372036854775807 ∧ g < w.heap.size ∧
      ∀ i, i < D.ls.length → w.cell? ⟨g, o + i * 2, none⟩ = some (xs i) ∧ w.cell? ⟨g, o + i * 2 + 1, none⟩ = some (.int .i64 ((D.ln i).mark - 1)) ∧ LstV w F (xs i) (NM.conts (D.ln i)) := by
  obtain ⟨g, o, c, xs, hv, hF, h0, hxl, hin, hle, hmx, hl⟩ := hc
  rw [List.length_map] at hv h0 hxl hle hl
  refine ⟨g, o, c, fun i => xs.getD (2 * i) undef, hv, h0, hle, hmx, vsAt_lt hin (by omega), fun i hi => ?_⟩
  have h1 := hl i hi
  rw [map_ln D hi] at h1
  have c1 := hin.at2 (j := 2 * i) (by omega)
  have c2 := hin.at2 (j := 2 * i + 1) (by omega)
  rw [h1.2] at c2
  rw [show o + i * 2 = o + 2 * i by omega]
  exact ⟨c1, by rw [Nat.add_assoc]; exact c2, h1.1⟩
end
theorem turn_wide {w : World} {F : Nat → Prop} {b : Nat} (hb : w.heap.size ≤ b) : Turn w F w (fun k => F k ∨ k = b) := ⟨Mod.refl _ _, fun k hk => by rcases hk with h | rfl; exact .inl h; exact .inr hb⟩
theorem LstV.shape {w : World} {F : Nat → Prop} {v : Value} {bs : List (List (BitVec 8))} (h : LstV w F v bs) : ∃ g o c, v = .slice (some ⟨g, o, none⟩) bs.length c ∧ bs.length ≤ c ∧ c ≤ 9223372036854775807 := by
  obtain ⟨g, o, c, vs, hv, hF, h0, hl, hin, _⟩ := h
  exact ⟨g, o, c, hv, by have := hin.le; omega, hin.max⟩

section
set_option linter.unusedSimpArgs false
set_option maxHeartbeats 1000000
variable {F : Nat → Prop} {D : NM.Dv}
theorem rmay_calls (i : Int) (v : Value) (w0 : World) (h : RefV w0 F v D) (hi64 : I64 i) : Ret Try.prog 35 #[v, .int .i64 i] w0 fun u w' => u = .int .i64 (D.may i) ∧ Below w0.heap.size w0 w' := by
  have bel0 := Below.refl w0.heap.size w0
  obtain ⟨cv, lf, rfl, hc, hlf, hI⟩ := h
  obtain ⟨g, o, c, xs, rfl, h0, hle, hmx, hglt, hcell⟩ := hc.open_
  refine ret_of (args := [_, _]) _ Try.func35 rfl Try.ntmps35 (by simp) ?_
  simp -implicitDefEqProofs [go_sem, devC]
  generalize hw1 : World.alloc w0 _ = w1 at *
  obtain ⟨hB1, b1, sz1⟩ := new_facts hw1
  have bel1 := bel0.trans (b1.mono bel0.size)
  by_cases h1 : i < 0
  · simp -implicitDefEqProofs [go_sem, h1]
    refine body_tmp 4 rfl ?_
    simp -implicitDefEqProofs [go_sem, NM.Dv.may, h1]
    exact bel1
  · by_cases h2 : (D.ls.length : Int) ≤ i
    · simp -implicitDefEqProofs [go_sem, h1, h2, hB1.cell]
      refine body_tmp 4 rfl ?_
      simp -implicitDefEqProofs [go_sem, NM.Dv.may, h1, h2]
      exact bel1
    · obtain ⟨q, rfl⟩ := Int.eq_ofNat_of_zero_le (by omega : 0 ≤ i)
      obtain ⟨c1, c2, hL⟩ := hcell q (by omega)
      obtain ⟨g2, o2, cc, hx, _, _⟩ := hL.shape
      rw [hx, NM.conts_len] at c1
      have c1' := cell_below c1 b1
      have hq : q < D.ls.length := by omega
      have hq0 : ¬ (q : Int) < 0 := by omega
      simp -implicitDefEqProofs [go_sem, hq0, h2, hq, hB1.cell, c1']
      refine body_tmp 4 rfl ?_
      simp -implicitDefEqProofs [go_sem, NM.Dv.may, h2, hq0]
      exact bel1
theorem ask_in {off : Int} (hd : D.down = false) (hp : 0 < D.ls.length) : D.ask off 8 = if 0 ≤ off ∧ off % 8 = 0 ∧ off ≤ 64 * (D.ls.length : Int) - 8 then 0 else 4 := by
  unfold NM.Dv.ask
  rw [if_neg (by omega), if_neg (by rw [hd]; simp)]
  by_cases h1 : 0 ≤ off
  · rw [Int.tmod_eq_emod_of_nonneg h1]
    unfold NM.Dv.size
    by_cases h2 : off % 8 = 0
    · by_cases h3 : off ≤ 64 * (D.ls.length : Int) - 8
      · rw [if_neg (by omega), if_pos ⟨h1, h2, h3⟩]
      · rw [if_pos (by omega), if_neg (by omega)]
    · rw [if_pos (.inr (.inr h2)), if_neg (by omega)]
  · rw [if_pos (by omega), if_neg (by omega)]
theorem rload_calls (off : Int) (v : Value) (w0 : World) (h : RefV w0 F v D) (ho : I64 off) (hok : D.Ok) (hc40 : D.steps < 1000000) : Ret Try.prog 32 #[v, .int .i64 off] w0 fun u w' => u = .tuple #[.int .u64 (uv (D.load off).1), .int .i64 (D.load off).2] ∧ Below w0.heap.size w0 w' := by
  have bel0 := Below.refl w0.heap.size w0
  obtain ⟨cv, lf, rfl, hc, hlf, hI⟩ := h
  have hc0 := hc
  obtain ⟨g, o, c, xs, rfl, h0, hle, hmx, hglt, hcell⟩ := hc.open_
  have hmost := hok.most
  refine ret_of (args := [_, _]) _ Try.func32 rfl Try.ntmps32 (by simp) ?_
  simp -implicitDefEqProofs [go_sem, devC]
  generalize hw1 : World.alloc w0 _ = w1 at *
  obtain ⟨hB1, b1, sz1⟩ := new_facts hw1
  have bel1 := bel0.trans (b1.mono bel0.size)
  replace hc0 := hc0.next b1
  cases hd : D.down
  · have ha := ask_in (D := D) (off := off) hd h0
    have hin := rin_calls _ (D.ls.map lineR) F D.down lf D.steps off w1 hc0 (by rw [List.length_map]; omega) ho
    rw [List.length_map] at hin
    simp only [devC, hd] at hin
    simp -implicitDefEqProofs [go_sem, hB1.cell, hd]
    refine callE_of hin ?_
    rintro u w2 ⟨rfl, b2⟩
    have bel2 := bel1.trans (b2.mono bel1.size)
    replace hB1 := hB1.next b2
    replace hc0 := hc0.next b2
    by_cases hi : 0 ≤ off ∧ off % 8 = 0 ∧ off ≤ 64 * (D.ls.length : Int) - 8
    · rw [if_pos hi] at ha
      obtain ⟨q, rfl⟩ := Int.eq_ofNat_of_zero_le hi.1
      obtain ⟨c1, c2, hL⟩ := hcell (q / 64) (by omega)
      replace c1 := cell_below c1 bel2
      replace c2 := cell_below c2 bel2
      replace hL := hL.next bel2
      have hchg := NM.Dv.Ok.lnChg hok (q / 64)
      have q1 : (q : Int).tdiv 64 = ((q / 64 : Nat) : Int) := by rw [Int.tdiv_eq_ediv_of_nonneg (by omega)]; rfl
      have q2 : (q : Int).tmod 64 = ((q % 64 : Nat) : Int) := by rw [Int.tmod_eq_emod_of_nonneg (by omega)]; rfl
      obtain ⟨a, ha1⟩ : ∃ a, a = q / 64 := ⟨_, rfl⟩
      obtain ⟨b, hb1⟩ : ∃ b, b = q % 64 := ⟨_, rfl⟩
      rw [← ha1] at c1 c2 hL hchg
      have q3 : (q : Int) / 64 = (a : Int) := by omega
      have q4 : (q : Int) % 64 = (b : Int) := by omega
      have k3 := IntWalk.i64_in (a : Int) (by omega)
      have q5 : (a : Int) < D.ls.length := by omega
      have q6 : a < D.ls.length := by omega
      have hld : D.load (q : Int) = (WM.getM (D.ln a).now b, 0) := by
        unfold NM.Dv.load
        have e : D.ask (q : Int) 8 = 0 := ha
        rw [if_pos e]; unfold NM.Dv.word; rw [Int.toNat_natCast, ← ha1, ← hb1]
      have hi2 := hi.2.1
      have hi3 := hi.2.2
      simp -implicitDefEqProofs [go_sem, hi2, hi3, q1, q2, q3, q4, k3, q5, q6, hB1.cell, c1, c2, hd]
      refine callE_of (rnow_calls F (xs a) (NM.conts (D.ln a)) _ w2 hL (by rw [NM.conts_len]; omega)) ?_
      rintro u w3 ⟨hcv, b3⟩
      rw [NM.conts_len, Nat.add_sub_cancel, NM.conts_last] at hcv
      obtain ⟨g3, o3, c3, rfl, hF3, hl3, hin3⟩ := hcv
      simp -implicitDefEqProofs [go_sem, q2, q4]
      refine callE_of (refGet_calls (some ⟨g3, o3, none⟩) (D.ln a).now 64 c3 b w3 hl3 (by decide) hin3.at_ (by omega) (by omega)) ?_
      rintro u w4 ⟨rfl, rfl⟩
      simp -implicitDefEqProofs [go_sem]
      refine body_tmp2 4 5 rfl ?_
      simp -implicitDefEqProofs [go_sem, hld]
      exact bel2.trans (b3.mono bel2.size)
    · rw [if_neg hi] at ha
      have hi' := decide_eq_false hi
      simp -implicitDefEqProofs [go_sem, hi']
      refine body_tmp2 4 5 rfl ?_
      simp -implicitDefEqProofs [go_sem, NM.Dv.load, ha]
      exact ⟨by simp [uv], bel2⟩
  · have ha := NM.ask_down h0 hd off 8
    simp -implicitDefEqProofs [go_sem, hB1.cell, hd]
    refine body_tmp2 4 5 rfl ?_
    simp -implicitDefEqProofs [go_sem, NM.Dv.load, ha]
    exact ⟨by simp [uv], bel1⟩
theorem rstop_calls (after : Int) (v : Value) (w0 : World) (h : RefV w0 F v D) (ha : I64 after) : Ret Try.prog 33 #[v, .int .i64 after] w0 fun u w' => RefV w' F u (D.stop after) ∧ Below w0.heap.size w0 w' := by
  have bel0 := Below.refl w0.heap.size w0
  have hst := Try.underlying60
  obtain ⟨cv, lf, rfl, hc, hlf, hI⟩ := h
  have hcv := hc.oneC
  have h0 : 0 < D.ls.length := by obtain ⟨_, _, _, _, _, h, _⟩ := hc.open_; exact h
  refine ret_of (args := [_, _]) _ Try.func33 rfl Try.ntmps33 (by simp) ?_
  simp -implicitDefEqProofs [go_sem, devC]
  generalize hw1 : World.alloc w0 _ = w1 at *
  obtain ⟨hB1, b1, sz1⟩ := new_facts hw1
  have bel1 := bel0.trans (b1.mono bel0.size)
  generalize hw2 : World.alloc w1 _ = w2 at *
  obtain ⟨hB2, b2, sz2⟩ := new_facts hw2
  have bel2 := bel1.trans (b2.mono bel1.size)
  replace hB1 := hB1.next b2
  have hB2' := hB2
  rw [sz1] at hB2'
  cases hd : D.down
  · have s2 := hB1.set 2 (.int .i64 after)
    have o2 := hB2'.setOther (a := ⟨w0.heap.size, 2, none⟩) (by simp) (.int .i64 after)
    by_cases h1 : after ≤ 0
    · have s1 := s2.set 1 (.bool true)
      have o1 := o2.setOther (a := ⟨w0.heap.size, 1, none⟩) (by simp) (.bool true)
      have hsA := stAll (P := Try.prog) (ty := 60) (cs := devC cv true after D.steps) o1 (rdevI _ _ _ _) rfl (devC_one hcv _ _ _)
      unfold devC at hsA
      have e : D.stop after = ⟨D.ls, true, 0, D.steps⟩ := by
        unfold NM.Dv.stop
        rw [if_neg (fun h => by rcases h with h | h; omega; rw [hd] at h; cases h), show max after 0 = 0 by omega]; rfl
      simp -implicitDefEqProofs [go_sem, hB1.cell, hB1.thaw, hd, h1, ↓hsA]
      refine bodyCell1 4 rfl (by simp -implicitDefEqProofs [go_sem]) (o1.row _) hst rfl (rdevI cv true after D.steps) ?_
      have belF := Below.row ((bel2.setCell (show w0.heap.size ≤ (⟨w0.heap.size, 2, none⟩ : Addr).block from Nat.le_refl _) (.int .i64 after)).setCell (show w0.heap.size ≤ (⟨w0.heap.size, 1, none⟩ : Addr).block from Nat.le_refl _) (.bool true)) (g := w0.heap.size + 1) (by omega) (devC cv true after D.steps)
      rw [e]
      exact ⟨⟨cv, after, rfl, hc.next belF, (fun h => by cases h), ha⟩, belF⟩
    · have hsA := stAll (P := Try.prog) (ty := 60) (cs := devC cv false after D.steps) o2 (rdevI _ _ _ _) rfl (devC_one hcv _ _ _)
      unfold devC at hsA
      have e : D.stop after = ⟨D.ls, false, after, D.steps⟩ := by
        unfold NM.Dv.stop
        rw [if_neg (fun h => by rcases h with h | h; omega; rw [hd] at h; cases h), show max after 0 = after by omega, decide_eq_false (by omega)]
      simp -implicitDefEqProofs [go_sem, hB1.cell, hB1.thaw, hd, h1, ↓hsA]
      refine bodyCell1 4 rfl (by simp -implicitDefEqProofs [go_sem]) (o2.row _) hst rfl (rdevI cv false after D.steps) ?_
      have belF := Below.row (bel2.setCell (show w0.heap.size ≤ (⟨w0.heap.size, 2, none⟩ : Addr).block from Nat.le_refl _) (.int .i64 after)) (g := w0.heap.size + 1) (by omega) (devC cv false after D.steps)
      rw [e]
      exact ⟨⟨cv, after, rfl, hc.next belF, fun _ => rfl, ha⟩, belF⟩
  · have hsA := stAll (P := Try.prog) (ty := 60) (cs := devC cv true lf D.steps) hB2' (rdevI _ _ _ _) rfl (devC_one hcv _ _ _)
    unfold devC at hsA
    have e : D.stop after = D := by unfold NM.Dv.stop; rw [if_pos (.inr hd)]
    simp -implicitDefEqProofs [go_sem, hB1.cell, hB1.thaw, hd, ↓hsA]
    refine bodyCell1 4 rfl (by simp -implicitDefEqProofs [go_sem]) (hB2'.row _) hst rfl (rdevI cv true lf D.steps) ?_
    have belF := Below.row bel2 (g := w0.heap.size + 1) (by omega) (devC cv true lf D.steps)
    rw [e]
    exact ⟨⟨cv, lf, by rw [hd]; rfl, hc.next belF, hlf, hI⟩, belF⟩
theorem map_setLn (D : NM.Dv) (i : Nat) (l : NM.Ln) : (D.setLn i l).ls.map lineR = (D.ls.map lineR).set i (lineR l) := by
  unfold NM.Dv.setLn; rw [List.map_set]
theorem rflush_calls (off : Int) (v : Value) (w0 : World) (h : RefV w0 F v D) (hFs : ∀ k, F k → k < w0.heap.size) (ho : I64 off) (hok : D.Ok) (hc40 : D.steps < 1000000) :
    Ret Try.prog 30 #[v, .int .i64 off] w0 fun u w' => ∃ v', u = .tuple #[v', .int .i64 (D.flush off).2] ∧ RefV w' F v' (D.flush off).1 ∧ Below w0.heap.size w0 w' := by
  have bel0 := Below.refl w0.heap.size w0
  have hst := Try.underlying60
  obtain ⟨cv, lf, rfl, hc, hlf, hI⟩ := h
  have hcv := hc.oneC
  have hc0 := hc
  obtain ⟨g, o, c, xs, rfl, h0, hle, hmx, hglt, hcell⟩ := hc.open_
  have hmost := hok.most
  have kw64 := IntWalk.i64_in (64 * (D.ls.length : Int)) (by omega)
  refine ret_of (args := [_, _]) _ Try.func30 rfl Try.ntmps30 (by simp) ?_
  simp -implicitDefEqProofs [go_sem, devC]
  generalize hw1 : World.alloc w0 _ = w1 at *
  obtain ⟨hB1, b1, sz1⟩ := new_facts hw1
  have bel1 := bel0.trans (b1.mono bel0.size)
  generalize hw2 : World.alloc w1 _ = w2 at *
  obtain ⟨hB2, b2, sz2⟩ := new_facts hw2
  have bel2 := bel1.trans (b2.mono bel1.size)
  replace hB1 := hB1.next b2
  have hB2' := hB2
  rw [sz1] at hB2'
  have hsA := fun dn => stAll (P := Try.prog) (ty := 60) (cs := devC (.slice (some ⟨g, o, none⟩) D.ls.length c) dn lf D.steps) hB2' (rdevI _ _ _ _) rfl (devC_one rfl _ _ _)
  unfold devC at hsA
  have belS := fun dn => Below.row bel2 (g := w0.heap.size + 1) (by omega) (devC (.slice (some ⟨g, o, none⟩) D.ls.length c) dn lf D.steps)
  cases hd : D.down
  · by_cases h1 : off < 0
    · have ha : D.ask off 1 = 4 := by unfold NM.Dv.ask; rw [if_neg (by omega), if_neg (by rw [hd]; simp), if_pos (.inl h1)]
      have hfl : D.flush off = (D, 4) := by unfold NM.Dv.flush; rw [ha]; rfl
      simp -implicitDefEqProofs [go_sem, hB1.cell, hB1.thaw, hd, h1, ↓hsA false]
      refine bodyCell 4 5 rfl (by simp -implicitDefEqProofs [go_sem]) (hB2'.row _) hst rfl (rdevI _ false lf D.steps) ?_
      simp -implicitDefEqProofs [go_sem, hfl]
      exact ⟨⟨_, lf, by rw [hd]; rfl, hc0.next (belS false), hlf, hI⟩, belS false⟩
    · by_cases h2 : 64 * (D.ls.length : Int) ≤ off
      · have ha : D.ask off 1 = 4 := by unfold NM.Dv.ask NM.Dv.size; rw [if_neg (by omega), if_neg (by rw [hd]; simp), if_pos (.inr (.inl (by omega)))]
        have hfl : D.flush off = (D, 4) := by unfold NM.Dv.flush; rw [ha]; rfl
        simp -implicitDefEqProofs [go_sem, hB1.cell, hB1.thaw, hd, h1, h2, kw64, ↓hsA false]
        refine bodyCell 4 5 rfl (by simp -implicitDefEqProofs [go_sem]) (hB2'.row _) hst rfl (rdevI _ false lf D.steps) ?_
        simp -implicitDefEqProofs [go_sem, hfl]
        exact ⟨⟨_, lf, by rw [hd]; rfl, hc0.next (belS false), hlf, hI⟩, belS false⟩
      · obtain ⟨q, rfl⟩ := Int.eq_ofNat_of_zero_le (by omega : 0 ≤ off)
        have ha : D.ask (q : Int) 1 = 0 := by
          unfold NM.Dv.ask NM.Dv.size
          rw [if_neg (by omega), if_neg (by rw [hd]; simp), if_neg]
          rw [Int.tmod_one]; omega
        obtain ⟨a, ha1⟩ : ∃ a, a = q / 64 := ⟨_, rfl⟩
        obtain ⟨c1, c2, hL⟩ := hcell a (by omega)
        replace c1 := cell_below c1 bel2
        replace c2 := cell_below c2 bel2
        have hchg := NM.Dv.Ok.lnChg hok a
        obtain ⟨g2, o2, cc, hx, _, _⟩ := hL.shape
        rw [NM.conts_len] at hx
        have q1 : (q : Int).tdiv 64 = (a : Int) := by rw [Int.tdiv_eq_ediv_of_nonneg (by omega)]; omega
        have q3 : (q : Int) / 64 = (a : Int) := by omega
        have k3 := IntWalk.i64_in (a : Int) (by omega)
        have q5 : (a : Int) < D.ls.length := by omega
        have q6 : a < D.ls.length := by omega
        have hd1 : ¬ (q : Int) < 0 := by omega
        have kl := IntWalk.i64_in ((D.ln a).chg.length : Int) (by omega)
        have kl1 : (((D.ln a).chg.length + 1 : Nat) : Int) - 1 = ((D.ln a).chg.length : Int) := by omega
        have hc41 : (D.setLn a { D.ln a with mark := (D.ln a).chg.length + 1 }).steps < 1099511627776 := by show D.steps < _; omega
        have hlR : lineR { D.ln a with mark := (D.ln a).chg.length + 1 } = ⟨NM.conts (D.ln a), ((D.ln a).chg.length : Int)⟩ := by
          unfold lineR; rw [RL.mk.injEq]; exact ⟨rfl, kl1⟩
        simp -implicitDefEqProofs [go_sem, hB1.cell, hB1.thaw, hd, hd1, h2, kw64, q1, q3, k3, q5, q6, c1, c2, hx]
        generalize hw3 : World.alloc w2 _ = w3 at *
        obtain ⟨hB3, b3, sz3⟩ := new_facts hw3
        have bel3 := bel2.trans (b3.mono bel2.size)
        replace hB1 := hB1.next b3
        have tP : Turn w0 F w0 (fun k => F k ∨ k = w0.heap.size + 1) := turn_wide (by omega)
        have hL3 := (hL.turn tP).next bel3
        rw [hx] at hL3
        have hwi := rwith_calls (fun k => F k ∨ k = w0.heap.size + 1) _ (D.ls.map lineR) a _ ⟨NM.conts (D.ln a), ((D.ln a).chg.length : Int)⟩ false lf D.steps w3 (fun k hk => by rcases hk with hk | hk; have := hFs k hk; have := bel3.size; omega; omega) ((hc0.turn tP).next bel3) (by rw [List.length_map]; exact q6) hL3 (by rw [List.length_map]; omega)
        rw [hlf hd] at hwi
        simp only [devC] at hwi
        have hlf' := hlf hd
        simp -implicitDefEqProofs [go_sem, hB1.cell, hd, q1, q3, k3, kl, hB3.cell, hlf']
        refine callE_of hwi ?_
        rintro u w4 ⟨cv', rfl, hc4, b4⟩
        rw [← hlR, ← map_setLn] at hc4
        have bel4 := bel3.trans (b4.mono bel3.size)
        have hdn := rdone_calls cv' (D.setLn a { D.ln a with mark := (D.ln a).chg.length + 1 }) w4 hc4.oneC hd hok.left hc41
        simp only [devC] at hdn
        have hdo := hd
        have e1 : (D.setLn a { D.ln a with mark := (D.ln a).chg.length + 1 }).down = D.down := rfl
        have e2 : (D.setLn a { D.ln a with mark := (D.ln a).chg.length + 1 }).left = D.left := rfl
        have e3 : (D.setLn a { D.ln a with mark := (D.ln a).chg.length + 1 }).steps = D.steps := rfl
        rw [e1, hd, e2, e3] at hdn
        simp -implicitDefEqProofs [go_sem]
        refine callE_of hdn ?_
        rintro u w5 ⟨rfl, b5⟩
        have bel5 := bel4.trans (b5.mono bel4.size)
        have hB2'' := hB2'.below ((b3.mono (by omega)).trans ((b4.mono (by have := b3.size; omega)).trans (b5.mono (by have := b3.size; have := b4.size; omega)))) (B := w2.heap.size) (by omega)
        have hfl : D.flush (q : Int) = ((D.setLn a { D.ln a with mark := (D.ln a).chg.length + 1 }).done, 0) := by
          unfold NM.Dv.flush; rw [if_pos ha, Int.toNat_natCast, ← ha1]
        have hI2 : I64 (D.setLn a { D.ln a with mark := (D.ln a).chg.length + 1 }).done.left := by
          have := hok.left
          show I64 (if 0 < D.left then D.left - 1 else D.left)
          unfold I64; split <;> omega
        have hcv4 := hc4.oneC
        have hc5 := hc4.next b5
        rw [← NM.done_ls] at hc5
        generalize (D.setLn a { D.ln a with mark := (D.ln a).chg.length + 1 }).done = E at *
        have hs5 := stAll (P := Try.prog) (ty := 60) (cs := devC cv' E.down E.left E.steps) hB2'' (rdevI _ _ _ _) rfl (devC_one hcv4 _ _ _)
        unfold devC at hs5
        simp -implicitDefEqProofs [go_sem, ↓hs5]
        refine bodyCell 4 5 rfl (by simp -implicitDefEqProofs [go_sem]) (hB2''.row _) hst rfl (rdevI cv' E.down E.left E.steps) ?_
        simp -implicitDefEqProofs [go_sem, hfl]
        refine ⟨⟨cv', E.left, rfl, hc5.turn ⟨(Mod.refl _ _).row (.inl (.inr rfl)) _, fun k hk => .inl (.inl hk)⟩, fun _ => rfl, hI2⟩, Below.row bel5 (by omega) _⟩
  · have ha := NM.ask_down h0 hd off 1
    have hfl : D.flush off = (D, 12) := by unfold NM.Dv.flush; rw [ha]; rfl
    simp -implicitDefEqProofs [go_sem, hB1.cell, hB1.thaw, hd, ↓hsA true]
    refine bodyCell 4 5 rfl (by simp -implicitDefEqProofs [go_sem]) (hB2'.row _) hst rfl (rdevI _ true lf D.steps) ?_
    simp -implicitDefEqProofs [go_sem, hfl]
    exact ⟨⟨_, lf, by rw [hd]; rfl, hc0.next (belS true), hlf, hI⟩, belS true⟩
end
end Go.Proofs.Ytkljlgahdlgmpaa
