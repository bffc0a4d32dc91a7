/- Steps, May, Stop, New: walks. -/
import Derived.Test.YtkljlgahdlgmpaaNvmWalk4
namespace Go.Proofs.Ytkljlgahdlgmpaa
open Go Go.RowKit

set_option linter.unusedSimpArgs false in
theorem steps_calls {p lb : Nat} {D : NM.Dv} {S : Nat → Spot} (w : World) (h : DevAt w p lb D S) : Ret Try.prog 25 #[.pointer (some ⟨p, 0, none⟩)] w fun v w' => v = .int .i64 (D.steps : Int) ∧ w' = w := by
  refine ret_of (args := [_]) _ Try.func25 rfl Try.ntmps25 (by simp) ?_
  simp -implicitDefEqProofs [go_sem, h.dev.cell]
  refine body_tmp 2 rfl ?_
  simp -implicitDefEqProofs [go_sem]
set_option linter.unusedSimpArgs false in
theorem may_calls {p lb : Nat} {D : NM.Dv} {S : Nat → Spot} (i : Int) (w : World) (h : DevAt w p lb D S) (hc : D.steps < 1099511627776) (hok : D.Ok) :
    Ret Try.prog 21 #[.pointer (some ⟨p, 0, none⟩), .int .i64 i] w fun v w' => v = .int .i64 (D.may i) ∧ w' = w := by
  refine ret_of (args := [_, _]) _ Try.func21 rfl Try.ntmps21 (by simp) ?_
  by_cases h1 : i < 0
  · simp -implicitDefEqProofs [go_sem, h1]
    refine body_tmp 4 rfl ?_
    simp -implicitDefEqProofs [go_sem, NM.Dv.may, h1]
  · by_cases h2 : (D.ls.length : Int) ≤ i
    · simp -implicitDefEqProofs [go_sem, h1, h2, h.dev.cell]
      refine body_tmp 4 rfl ?_
      simp -implicitDefEqProofs [go_sem, NM.Dv.may, h1, h2]
    · obtain ⟨Q, rfl⟩ := Int.eq_ofNat_of_zero_le (by omega : 0 ≤ i)
      have hQ : Q < D.ls.length := by omega
      have hQ2 : ¬ D.ls.length ≤ Q := by omega
      obtain ⟨C, hL⟩ := h.lines
      have g64 := hL.blk.cell (Q * 66 + 64)
      rw [hL.chg Q hQ, spotV] at g64
      have hcl := NM.Dv.Ok.lnChg hok Q
      have hw := IntWalk.i64_in (((D.ln Q).chg.length : Int) + 1) (by omega)
      have hQz : ¬ (Q : Int) < 0 := by omega
      simp -implicitDefEqProofs [go_sem, hQz, h2, hQ, hQ2, h.dev.cell, g64, hw]
      refine body_tmp 4 rfl ?_
      simp -implicitDefEqProofs [go_sem, NM.Dv.may, hQz, h2, hQ2]
set_option linter.unusedSimpArgs false in
theorem stop_calls {p lb : Nat} {D : NM.Dv} {S : Nat → Spot} (after : Int) (w : World) (h : DevAt w p lb D S) (ha : after ≤ 9223372036854775807) :
    Ret Try.prog 24 #[.pointer (some ⟨p, 0, none⟩), .int .i64 after] w fun v w' => v = .tuple #[] ∧ DevAt w' p lb (D.stop after) S ∧ Mod (fun k => k = p) w w' ∧ w'.heap.size = w.heap.size := by
  have hpos := h.pos
  have hs0 : ((D.size : Int) == 0) = false := by rw [beq_eq_false_iff_ne]; unfold NM.Dv.size; omega
  have hs0' : ¬ D.size = 0 := by unfold NM.Dv.size; omega
  have hl0 : ¬ D.ls.length = 0 := by omega
  have hB := h.dev
  refine ret_of (args := [_, _]) _ Try.func24 rfl Try.ntmps24 (by simp) ?_
  simp -implicitDefEqProofs [go_sem]
  refine callE_of (size_calls w h) ?_
  rintro v w1 ⟨rfl, rfl⟩
  cases hd : D.down
  · have hB1 := hB.set 2 (.int .i64 (max after 0))
    have hB2 := hB1.set 1 (.bool (max after 0 == 0))
    have hm1 := (Mod.refl (fun k => k = p) w1).setCell (a := ⟨p, 2, none⟩) (.inl rfl) (.int .i64 (max after 0))
    have hm2 := hm1.setCell (a := ⟨p, 1, none⟩) (.inl rfl) (.bool (max after 0 == 0))
    have e : D.stop after = ⟨D.ls, decide (max after 0 = 0), max after 0, D.steps⟩ := by simp [NM.Dv.stop, hl0, hd]
    simp -implicitDefEqProofs [go_sem, hs0, hs0', hB.cell, hB.thaw, hd]
    refine body_end (body_none rfl ?_)
    refine ⟨rfl, h.head (D' := D.stop after) ?_ hm2 (by rw [e]) ?_, hm2, by simp [World.setCell]⟩
    · rw [e]
      refine (show Blk _ p _ _ from hB2).eq' ?_
      simp [decide_beq]
    · rw [e]; exact ⟨h.ok.line, h.ok.most, by simp only; omega⟩
  · have e : D.stop after = D := by simp [NM.Dv.stop, hd]
    simp -implicitDefEqProofs [go_sem, hs0, hs0', hB.cell, hd]
    refine body_none rfl ?_
    rw [e]
    exact ⟨rfl, h, Mod.refl _ _, rfl⟩

/-- A line with nothing, as cells. -/
def lineZ : Array Value := ((List.replicate 64 (Value.int .u8 0)) ++ [Value.slice none 0 0, Value.int .i64 0]).toArray
theorem lineI : ∃ i z, Try.prog.info? 92 = some i ∧ i.zero = some z ∧ i.size = 66 ∧ i.bytes = 96 ∧ z.cells = lineZ := by
  have h : (Try.prog.info? 92).map (fun i => (i.zero.map (fun z => z.cells), i.size, i.bytes)) = some (some lineZ, 66, 96) := by kernel_rfl
  obtain ⟨i, hi, h2⟩ := Option.map_eq_some_iff.1 h
  simp only [Prod.mk.injEq] at h2
  obtain ⟨z, hz, h3⟩ := Option.map_eq_some_iff.1 h2.1
  exact ⟨i, z, hi, hz, h2.2.1, h2.2.2, h3⟩
theorem lineZ_size : lineZ.size = 66 := by simp [lineZ]
theorem madeC_get (n i j : Nat) (hi : i < n) (hj : j < 66) : (madeCells lineZ (n * 66))[i * 66 + j]? = lineZ[j]? := by
  have h1 : i * 66 + j < n * 66 := by omega
  have h2 : (i * 66 + j) % lineZ.size = j := by rw [lineZ_size]; omega
  have h3 : j < lineZ.size := by rw [lineZ_size]; exact hj
  simp [madeCells, h1, h2, h3]
theorem lineZ_now (j : Nat) (hj : j < 64) : lineZ[j]? = some (.int .u8 0) := by
  unfold lineZ
  rw [List.getElem?_toArray, List.getElem?_append_left (by rw [List.length_replicate]; exact hj), List.getElem?_replicate, if_pos hj]
def S0 : Nat → Spot := fun _ => (none, 0)
theorem dev0_ln (n i : Nat) (hi : i < n) : (NM.dev0 n).ln i = NM.line0 := by simp [NM.Dv.ln, NM.dev0, hi]
set_option linter.unusedSimpArgs false in
theorem new_calls (n : Int) (w0 : World) (hn : I64 n) :
    Ret Try.prog 15 #[.int .i64 n] w0 fun v w' => Below w0.heap.size w0 w' ∧
      ((¬ (1 ≤ n ∧ n ≤ 1024) ∧ v = .pointer none) ∨ ((1 ≤ n ∧ n ≤ 1024) ∧ ∃ p lb, v = .pointer (some ⟨p, 0, none⟩) ∧ DevAt w' p lb (NM.dev0 n.toNat) S0 ∧ w0.heap.size ≤ p ∧ w0.heap.size ≤ lb)) := by
  have bel0 := Below.refl w0.heap.size w0
  refine ret_of (args := [_]) _ Try.func15 rfl Try.ntmps15 (by simp) ?_
  by_cases h1 : n < 1
  · simp -implicitDefEqProofs [go_sem, h1]
    refine body_tmp 2 rfl ?_
    simp -implicitDefEqProofs [go_sem]
    exact ⟨bel0, fun h => by omega⟩
  by_cases h2 : 1024 < n
  · simp -implicitDefEqProofs [go_sem, h1, h2]
    refine body_tmp 2 rfl ?_
    simp -implicitDefEqProofs [go_sem]
    exact ⟨bel0, fun _ => by omega⟩
  obtain ⟨m, rfl⟩ := Int.eq_ofNat_of_zero_le (by omega : 0 ≤ n)
  obtain ⟨ti, tz, hti, htz, hts, htb, htc⟩ := lineI
  have hmk := fun w => run_make (P := Try.prog) w 51 92 ti tz Try.underlying51 hti htz .i64 .i64 (m : Int) (m : Int) (by omega) (Int.le_refl _) (by rw [htb]; omega) (by omega)
  rw [hts, htc, Int.toNat_natCast] at hmk
  simp -implicitDefEqProofs [go_sem, h1, h2, hmk]
  generalize hw1 : World.alloc w0 _ = w1 at *
  obtain ⟨hB1, b1, sz1⟩ := new_facts hw1
  have bel1 := bel0.trans (b1.mono bel0.size)
  generalize hw2 : World.alloc w1 _ = w2 at *
  obtain ⟨hB2, b2, sz2⟩ := new_facts hw2
  have bel2 := bel1.trans (b2.mono bel1.size)
  replace hB1 := hB1.next b2
  refine body_tmp 2 rfl ?_
  have hln := dev0_ln m
  have hlen : (NM.dev0 m).ls.length = m := by simp [NM.dev0]
  refine ⟨bel2, Or.inr ⟨by omega, w0.heap.size + 1, w0.heap.size, (by simp -implicitDefEqProofs [go_sem]), ?_, by omega, Nat.le_refl _⟩⟩
  rw [← sz1]
  refine ⟨?_, ⟨madeCells lineZ (m * 66), hB1, by rw [hlen]; simp [madeCells]; omega, fun i hi j hj => ?_, fun i hi => ?_, fun i hi => ?_⟩, fun i hi => ?_, by omega, fun i hi => ?_, fun i j hi hj _ k hk => ?_, (NM.dev0_ok m (by omega)).to0, by rw [hlen]; omega⟩
  · refine hB2.eq' ?_
    rw [hlen]; rfl
  · rw [hlen] at hi; rw [madeC_get m i j hi (by omega), lineZ_now j hj, hln i hi]
    have hz : NM.zeros.getD j 0#8 = 0#8 := by unfold NM.zeros; rw [List.getD_eq_getElem?_getD, List.getElem?_replicate, if_pos hj]; rfl
    show _ = some (Value.int .u8 (uv (NM.zeros.getD j 0#8)))
    rw [hz]; rfl
  · rw [hlen] at hi; rw [madeC_get m i 64 hi (by omega), hln i hi]; rfl
  · rw [hlen] at hi; rw [madeC_get m i 65 hi (by omega), hln i hi]; rfl
  · rw [hlen] at hi; rw [hln i hi]; exact World.ownsRow_nil _ _ _ _
  · rw [hlen] at hi; rw [hln i hi]; simp [spotV, S0, Value.ownBlock]
  · rw [hlen] at hi; rw [hln i hi] at hk; simp [spotV, S0, Value.ownBlock] at hk
end Go.Proofs.Ytkljlgahdlgmpaa
