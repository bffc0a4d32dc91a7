/- The document's Open and Image of a shape: walks. -/
import Derived.Test.YtfppphmlepdopaaDoorHeadRef
import Derived.Test.YtfppphmlepdopaaDoorEq
import Derived.Test.YtfppphmlepdopaaDoorHeadLaw2
namespace Go.Proofs.YtfppphmlepdopaaDoor
set_option linter.unusedVariables false
set_option linter.unusedSimpArgs false
open Go Go.RowKit

/-- The document's Open, of the first words, and how many lines there are. -/
def HM.openR (l : List (BitVec 64)) (n : Int) : HM.Shape × Bool := if (HM.of n).2 = true ∧ l = HM.words (HM.of n).1 then ((HM.of n).1, true) else (HM.none4, false)
set_option maxHeartbeats 1000000 in
theorem refOpen_calls (a : Option Addr) (l : List (BitVec 64)) (c : Nat) (n : Int) (w0 : World) (hn : I64 n) (h8 : l.length = 8) (hin : SlIn .u64 w0 a l c) :
    Ret Tryd.prog 25 #[.slice a 8 c, .int .i64 n] w0 fun v w' => v = .tuple #[.agg (shapeC (HM.openR l n).1), .bool (HM.openR l n).2] ∧ Below w0.heap.size w0 w' := by
  have bel0 := Below.refl w0.heap.size w0
  have hst : Tryd.prog.underlying 23 = _ := Tryd.underlying23
  have hI := HM.of_i (n := n) hn
  refine ret_of (args := [_, _]) _ Tryd.func25 rfl Tryd.ntmps25 (by simp) ?_
  simp -implicitDefEqProofs [go_sem]
  generalize hw1 : World.alloc w0 _ = w1 at *
  obtain ⟨hB1, b1, sz1⟩ := new_facts hw1
  have bel1 := bel0.trans (b1.mono bel0.size)
  replace hin := hin.next b1
  refine callE_of (refOf_calls n w1 hn) ?_
  rintro v w2 ⟨rfl, b2⟩
  have bel2 := bel1.trans (b2.mono bel1.size)
  replace hB1 := hB1.next b2
  replace hin := hin.next b2
  simp -implicitDefEqProofs [go_sem, ↓stRShape (HM.of n).1]
  generalize hw3 : World.alloc w2 _ = w3 at *
  obtain ⟨hB3, b3, sz3⟩ := new_facts hw3
  have bel3 := bel2.trans (b3.mono bel2.size)
  replace hB1 := hB1.next b3
  replace hin := hin.next b3
  simp -implicitDefEqProofs [go_sem, hB3.cell, shapeC_0, shapeC_1, shapeC_2, shapeC_3]
  refine callE_of (refWords_calls (HM.of n).1 w3 hI) ?_
  rintro v w4 ⟨b4, a4, c4, rfl, in4⟩
  have bel4 := bel3.trans (b4.mono bel3.size)
  replace hB1 := hB1.next b4
  replace hin := hin.next b4
  replace hB3 := hB3.next b4
  cases hof : (HM.of n).2
  · have hR : HM.openR l n = (HM.none4, false) := by unfold HM.openR; rw [if_neg (by rw [hof]; simp)]
    have hz := stAll (P := Tryd.prog) (ty := 23) (cs := #[.int .i64 0, .int .i64 0, .int .i64 0, .int .i64 0]) hB1 rshapeI4 rfl (shapeC_one HM.none4)
    simp -implicitDefEqProofs [go_sem, hof, ↓hz]
    refine bodyCell 4 5 rfl (by simp -implicitDefEqProofs [go_sem]) (hB1.row _) hst rfl rshapeI4 ?_
    simp -implicitDefEqProofs [go_sem, hR, shapeC, HM.none4]
    exact Below.row bel4 (Nat.le_refl _) _
  · have hw8 : (HM.words (HM.of n).1).length = 8 := by
      obtain ⟨hn1, hn2, hn3, _⟩ := HM.of_some hof
      obtain ⟨m, rfl⟩ := Int.eq_ofNat_of_zero_le (by omega : 0 ≤ n)
      rw [hn3]; exact HM.words_len (by omega) (by omega)
    have hRR : HM.openR l n = if l = HM.words (HM.of n).1 then ((HM.of n).1, true) else (HM.none4, false) := by
      unfold HM.openR; simp only [hof, true_and]
    generalize HM.words (HM.of n).1 = W at *
    rw [hw8]
    simp -implicitDefEqProofs [go_sem, hof]
    refine wpE_loop (fun e' w' => ∃ k : Nat, k ≤ 8 ∧ l.take k = W.take k ∧ e' 0 = .slice a 8 c ∧ e' 4 = .pointer (some ⟨w0.heap.size, 0, none⟩) ∧ e' 6 = .pointer (some ⟨w2.heap.size, 0, none⟩) ∧ e' 8 = .slice a4 8 c4 ∧ e' 9 = .int .i64 k ∧ Below w4.heap.size w4 w') (fun e' _ => 8 - (intOf (e' 9)).toNat) ?_ ?_
    · refine ⟨0, by omega, by simp, ?_⟩
      simp -implicitDefEqProofs [go_sem]
      exact Below.refl _ _
    · rintro e' w5 ⟨k, hk, heq, g0, g4, g6, g8, g9, bel5⟩
      by_cases hlt : k < 8
      · have hlt' : (k : Int) < 8 := by omega
        have hw := IntWalk.i64_in ((k : Int) + 1) (by omega)
        obtain ⟨ba, oa, rfl, ga⟩ := (hin.at_.below bel5).cell (i := k) (by omega)
        obtain ⟨bb, ob, rfl, gb⟩ := (in4.at_.below bel5).cell (i := k) (by omega)
        simp -implicitDefEqProofs [go_sem, g0, g4, g6, g8, g9, hlt, hlt']
        refine drawE_still mixed (by decide +kernel) ?_
        simp -implicitDefEqProofs [go_sem, g0, g4, g6, g8, g9, hlt, hlt', ga, gb]
        unfold endE
        simp -implicitDefEqProofs [go_sem]
        by_cases hx : l[k] = W[k]
        · have hx' : (l[k] != W[k]) = false := by rw [hx]; simp
          rw [hx']
          simp -implicitDefEqProofs [go_sem, hw, g9]
          refine goE_round ⟨k + 1, by omega, ?_, ?_⟩ ?_
          · rw [List.take_succ_eq_append_getElem (by omega), List.take_succ_eq_append_getElem (by omega), heq, hx]
          · simp -implicitDefEqProofs [go_sem, g0, g4, g6, g8]
            exact bel5.drew
          · simp -implicitDefEqProofs [go_sem, intOf, g9]; omega
        · have hx' : (l[k] != W[k]) = true := by rw [bne_iff_ne]; exact hx
          have hR : HM.openR l n = (HM.none4, false) := by rw [hRR, if_neg]; rintro rfl; exact hx rfl
          have hB1' := (hB1.next bel5).drew
          have hz := stAll (P := Tryd.prog) (ty := 23) (cs := #[.int .i64 0, .int .i64 0, .int .i64 0, .int .i64 0]) hB1' rshapeI4 rfl (shapeC_one HM.none4)
          rw [hx']
          simp -implicitDefEqProofs [go_sem, g4, ↓hz]
          refine bodyCell 4 5 rfl (by simp -implicitDefEqProofs [go_sem, g4]) (hB1'.row _) hst rfl rshapeI4 ?_
          simp -implicitDefEqProofs [go_sem, hR, shapeC, HM.none4]
          exact Below.row (bel4.trans (bel5.drew.mono bel4.size)) (Nat.le_refl _) _
      · have hk' : k = 8 := by omega
        subst hk'
        have e : l = W := by rw [List.take_of_length_le (by omega), List.take_of_length_le (by omega)] at heq; exact heq
        have hR : HM.openR l n = ((HM.of n).1, true) := by rw [hRR, if_pos e]
        have hB1' := hB1.next bel5
        have hB3' := hB3.next bel5
        have hlt' : ¬ (8 : Int) < 8 := by omega
        have hz := stAll (P := Tryd.prog) (ty := 23) (cs := shapeC (HM.of n).1) hB1' rshapeI4 rfl (shapeC_one _)
        have hld := ldAll (P := Tryd.prog) (ty := 23) (n := 4) hB3' hst rfl rshapeI4 rfl
        simp -implicitDefEqProofs [go_sem, g0, g4, g6, g8, g9, hlt', ↓hld, ↓hz]
        refine bodyCell 4 5 rfl (by simp -implicitDefEqProofs [go_sem, g4]) (hB1'.row _) hst rfl rshapeI4 ?_
        simp -implicitDefEqProofs [go_sem, hR]
        exact Below.row (bel4.trans (bel5.mono bel4.size)) (Nat.le_refl _) _
/-- The bytes of a device that was formatted. -/
def HM.imageR (s : HM.Shape) : List (BitVec 8) := HM.wbytes (HM.words s) ++ List.replicate (64 * s.lines.toNat - 64) 0#8
set_option maxHeartbeats 1000000 in
theorem refImage_calls (n : Nat) (w0 : World) (hof : (HM.of n).2 = true) :
    Ret Tryd.prog 27 #[.agg (shapeC (HM.of n).1)] w0 fun v w' => ∃ a c, v = .slice a (64 * n) c ∧ SlIn .u8 w' a (HM.imageR (HM.of n).1) c ∧ (HM.imageR (HM.of n).1).length = 64 * n ∧ Below w0.heap.size w0 w' := by
  have bel0 := Below.refl w0.heap.size w0
  have hst : Tryd.prog.underlying 23 = _ := Tryd.underlying23
  have hI := HM.of_i (n := n) (by have := (HM.of_some hof).2.1; unfold I64; omega)
  obtain ⟨hn1, hn2, hn3, _⟩ := HM.of_some hof
  have hw8 : (HM.words (HM.of n).1).length = 8 := by rw [hn3]; exact HM.words_len (by omega) (by omega)
  have hlines : (HM.of n).1.lines = n := by rw [hn3]; rfl
  have hilen : (HM.imageR (HM.of n).1).length = 64 * n := by
    unfold HM.imageR
    rw [List.length_append, HM.wbytes_len, hw8, List.length_replicate, hlines]; omega
  refine ret_of (args := [_]) _ Tryd.func27 rfl Tryd.ntmps27 (by simp) ?_
  have kw := IntWalk.i64_in (64 * (n : Int)) (by omega)
  simp -implicitDefEqProofs [go_sem]
  generalize hw1 : World.alloc w0 _ = w1 at *
  obtain ⟨hB1, b1, sz1⟩ := new_facts hw1
  have bel1 := bel0.trans (b1.mono bel0.size)
  have e1 : (64 * (n : Int)) = ((64 * n : Nat) : Int) := by omega
  have hmk := run_make_n (P := Tryd.prog) (t := 37) (e := 5) (z := .int .u8 0) (bytes := 1) Tryd.underlying37 info_u8 rfl .i64 .i64 (64 * n) (by omega) (by omega) w1
  rw [← e1] at hmk
  have hld := ldAll (P := Tryd.prog) (ty := 23) (n := 4) hB1 hst rfl rshapeI4 rfl
  simp -implicitDefEqProofs [go_sem, hB1.cell, shapeC_0, hlines, kw, hmk]
  generalize hw2 : World.alloc w1 _ = w2 at *
  obtain ⟨hB2, b2, sz2⟩ := new_facts hw2
  have bel2 := bel1.trans (b2.mono bel1.size)
  replace hB1 := hB1.next b2
  simp -implicitDefEqProofs [go_sem, hB1.cell, shapeC_0, shapeC_1, shapeC_2, shapeC_3]
  refine callE_of (refWords_calls (HM.of n).1 w2 hI) ?_
  rintro v w3 ⟨b3, a3, c3, rfl, in3⟩
  have bel3 := bel2.trans (b3.mono bel2.size)
  replace hB1 := hB1.next b3
  replace hB2 := hB2.next b3
  rw [hw8]
  simp -implicitDefEqProofs [go_sem]
  refine callE_of (refBytes_calls a3 (HM.words (HM.of n).1) 8 c3 w3 hw8 (by omega) in3.at_) ?_
  rintro v w4 ⟨a4, c4, rfl, in4, b4, n4⟩
  have bel4 := bel3.trans (b4.mono bel3.size)
  replace hB1 := hB1.next b4
  replace hB2 := hB2.next b4
  have hwbl : (HM.wbytes (HM.words (HM.of n).1)).length = 64 := by rw [HM.wbytes_len, hw8]
  have him : ∀ i, i < 64 * n → (HM.imageR (HM.of n).1).getD i 0#8 = if i < 64 then (HM.wbytes (HM.words (HM.of n).1)).getD i 0#8 else 0#8 := fun i hi => by
    unfold HM.imageR
    rw [List.getD_eq_getElem?_getD, List.getElem?_append, hwbl]
    split
    · rw [List.getD_eq_getElem?_getD]
    · rw [List.getElem?_replicate]; split <;> rfl
  generalize HM.imageR (HM.of n).1 = I at *
  generalize HM.wbytes (HM.words (HM.of n).1) = B at *
  simp -implicitDefEqProofs [go_sem]
  refine wpE_loop (fun e' w' => ∃ (k : Nat) (C : Array Value), k ≤ 64 ∧ C.size = 64 * n ∧ (∀ i, i < 64 * n → C[i]? = some (.int .u8 (uv (if i < k then B.getD i 0#8 else 0#8)))) ∧ e' 3 = .slice (some ⟨w1.heap.size, 0, none⟩) (64 * n) (64 * n) ∧ e' 4 = .slice a4 64 c4 ∧ e' 5 = .int .i64 k ∧ Blk w' w1.heap.size C 5 ∧ Below w0.heap.size w0 w' ∧ Mod (fun k => k = w1.heap.size) w4 w') (fun e' _ => 64 - (intOf (e' 5)).toNat) ?_ ?_
  · refine ⟨0, _, by omega, ?_, ?_, ?_, ?_, ?_, hB2, bel4, Mod.refl _ _⟩
    · simp
    · intro i hi; simp [hi, uv]
    · simp -implicitDefEqProofs [go_sem]
    · simp -implicitDefEqProofs [go_sem]
    · simp -implicitDefEqProofs [go_sem]
  · rintro e' w5 ⟨k, C, hk, hCs, hC, g3, g4, g5, hB, bel, hm⟩
    have inB : SlIn .u8 w5 a4 B c4 := in4.mod hm (fun b ⟨o, ho⟩ hb => by have := n4 _ ho; have h1 := hB2.lt; have h2 := bel2.size; have h3 := b3.size; simp only at this; omega)
    by_cases hlt : k < 64
    · have hlt' : (k : Int) < 64 := by omega
      have hw := IntWalk.i64_in ((k : Int) + 1) (by omega)
      obtain ⟨bb, ob, ha4, gb⟩ := inB.at_.cellD (i := k) (by omega)
      have gc := hB.cell k
      rw [hC k (by omega)] at gc
      have gt := hB.thaw k
      have i1 : (k : Int) < 64 * (n : Int) := by omega
      have i2 : k < 64 * n := by omega
      subst ha4
      simp -implicitDefEqProofs [go_sem, g3, g4, g5, hlt, hlt', gb, gc, gt, hw, i1, i2]
      have hs := hB.set k (.int .u8 (uv (B.getD k 0#8)))
      refine goE_round ⟨k + 1, C.setIfInBounds k (.int .u8 (uv (B.getD k 0#8))), by omega, by simpa using hCs, fun i hi => ?_, ?_, ?_, ?_, ?_, ?_, ?_⟩ ?_
      · rw [Array.getElem?_setIfInBounds]
        by_cases h : k = i
        · subst h; rw [if_pos rfl, if_pos (by omega), if_pos (by omega)]
        · rw [if_neg h, hC i hi]
          congr 4
          exact propext (by omega)
      · simp -implicitDefEqProofs [go_sem, g3]
      · simp -implicitDefEqProofs [go_sem, g4]
      · simp -implicitDefEqProofs [go_sem]
      · simpa using hs
      · exact bel.setCell (by simp; omega) _
      · exact hm.setCell (.inl rfl) _
      · simp -implicitDefEqProofs [go_sem, intOf, g5]; omega
    · have hk' : k = 64 := by omega
      subst hk'
      have hlt' : ¬ (64 : Int) < 64 := by omega
      simp -implicitDefEqProofs [go_sem, g3, g4, g5, hlt']
      refine body_tmp 2 rfl ?_
      simp -implicitDefEqProofs [go_sem]
      refine ⟨some ⟨w1.heap.size, 0, none⟩, 64 * n, ⟨rfl, rfl⟩, ⟨slAt_blk hB fun i hi => ?_, by omega, by omega, fun h => by cases h⟩, hilen, bel⟩
      have hi' : i < 64 * n := by omega
      rw [hC i hi', ← him i hi']
      simp [List.getD, hi]
end Go.Proofs.YtfppphmlepdopaaDoor
