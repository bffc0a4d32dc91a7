/- HeadWords, HeadShapes: walks. -/
import Derived.Test.YtfppphmlepdopaaDoorHeadLaw1
import Derived.Test.YtfppphmlepdopaaDoorHeadRef
namespace Go.Proofs.YtfppphmlepdopaaDoor
set_option linter.unusedVariables false
set_option linter.unusedSimpArgs false
open Go Go.RowKit

theorem HM.words_len2 (s : HM.Shape) : (HM.words s).length = 8 ∨ (HM.words s).length = 0 := by
  unfold HM.words; split
  · exact .inl rfl
  · exact .inr rfl
theorem words_le4 (s : HM.Shape) : (HM.words s).length ≤ 8 := by rcases HM.words_len2 s with h | h <;> omega
theorem cell_next {w w' : World} {a : Addr} {v : Value} (h : w.cell? a = some v) (hb : Below w.heap.size w w') : w'.cell? a = some v := (hb.cell (World.block_lt_of_cell? w _ h)).trans h
theorem shape_eq (t s : HM.Shape) : (decide (t.lines = s.lines) && (decide (t.slabs = s.slabs) && (decide (t.table = s.table) && decide (t.data = s.data)))) = decide (t = s) := by
  obtain ⟨a, b, c, d⟩ := t
  obtain ⟨a', b', c', d'⟩ := s
  rw [Bool.eq_iff_iff]
  simp only [HM.Shape.mk.injEq, Bool.and_eq_true, decide_eq_true_eq]
section
set_option linter.unusedSimpArgs false
set_option maxHeartbeats 4000000 in
theorem headWordsLaw_walk (x y : BitVec 16) (w0 : World) (hF : Fours w0) : Ret Tryd.prog 5 #[.int .u16 (uv x), .int .u16 (uv y)] w0 fun v w' => v = .bool true ∧ Below w0.heap.size w0 w' := by
  have bel0 := Below.refl w0.heap.size w0
  have hst : Tryd.prog.underlying 25 = _ := Tryd.underlying25
  obtain ⟨n, hn, hlt⟩ := umod_nat x 1024#16 (by decide)
  replace hlt : n < 1024 := hlt
  obtain ⟨m, hm, hlm⟩ := umod_nat y 1024#16 (by decide)
  replace hlm : m < 1024 := hlm
  refine ret_of (args := [_, _]) _ Tryd.func5 rfl Tryd.ntmps5 (by simp) ?_
  simp -implicitDefEqProofs [go_sem]
  refine callE_of (alive_calls w0 hF) ?_
  rintro v w1 ⟨rfl, b1⟩
  have bel1 := bel0.trans (b1.mono bel0.size)
  have hwn := IntWalk.i64_in (n : Int) (by omega)
  have hwn1 := IntWalk.i64_in ((n : Int) + 1) (by omega)
  have hwm := IntWalk.i64_in (m : Int) (by omega)
  have hwm1 := IntWalk.i64_in ((m : Int) + 1) (by omega)
  simp -implicitDefEqProofs [go_sem, hn, hwn, hwn1]
  refine callE_of (headOf_calls ((n : Int) + 1) w1 (by unfold I64; omega)) ?_
  rintro v w2 ⟨rfl, b2⟩
  have bel2 := bel1.trans (b2.mono bel1.size)
  simp -implicitDefEqProofs [go_sem, ↓stShape (HM.of ((n : Int) + 1)).1]
  generalize hw3 : World.alloc w2 _ = w3 at *
  obtain ⟨hB3, b3, sz3⟩ := new_facts hw3
  have bel3 := bel2.trans (b3.mono bel2.size)
  simp -implicitDefEqProofs [go_sem, hm, hwm, hwm1]
  refine callE_of (headOf_calls ((m : Int) + 1) w3 (by unfold I64; omega)) ?_
  rintro v w4 ⟨rfl, b4⟩
  have bel4 := bel3.trans (b4.mono bel3.size)
  replace hB3 := hB3.next b4
  simp -implicitDefEqProofs [go_sem, ↓stShape (HM.of ((m : Int) + 1)).1]
  generalize hw5 : World.alloc w4 _ = w5 at *
  obtain ⟨hB5, b5, sz5⟩ := new_facts hw5
  have bel5 := bel4.trans (b5.mono bel4.size)
  replace hB3 := hB3.next b5
  have hI1 := HM.of_i (n := (n : Int) + 1) (by unfold I64; omega)
  have hI2 := HM.of_i (n := (m : Int) + 1) (by unfold I64; omega)
  have e1 : ((n + 1 : Nat) : Int) = (n : Int) + 1 := by omega
  have e2 : ((m + 1 : Nat) : Int) = (m : Int) + 1 := by omega
  have hsame := fun h1 h2 => HM.words_same (a := n + 1) (b := m + 1) h1 h2
  have hwl1 : (HM.of ((n : Int) + 1)).2 = true → (HM.words (HM.of ((n : Int) + 1)).1) = HM.six (HM.of ((n : Int) + 1)).1 ++ [(Crc.next 0#32 (HM.wbytes (HM.six (HM.of ((n : Int) + 1)).1))).setWidth 64, 0#64] := fun h => by
    have h2 := HM.of_some h
    have := HM.words_of (n := n + 1) (by omega) (by omega)
    rw [e1] at this
    rw [h2.2.2.1]; exact this
  have hwl2 : (HM.of ((m : Int) + 1)).2 = true → (HM.words (HM.of ((m : Int) + 1)).1) = HM.six (HM.of ((m : Int) + 1)).1 ++ [(Crc.next 0#32 (HM.wbytes (HM.six (HM.of ((m : Int) + 1)).1))).setWidth 64, 0#64] := fun h => by
    have h2 := HM.of_some h
    have := HM.words_of (n := m + 1) (by omega) (by omega)
    rw [e2] at this
    rw [h2.2.2.1]; exact this
  rw [e1, e2] at hsame
  refine drawE_mix [.take 0, .take 2, .run 1 [2], .run 3 [], .pure 4, .pure 5] mixed (by decide +kernel) (by simp only [withOps, MStep.num, List.filterMap_cons, List.filterMap_nil, List.getElem?_cons_succ, List.getElem?_cons_zero, Option.map_some]; rfl) ?_
  replace hF := (hF.below bel5).below (Below.refl _ _).drew
  replace hB3 := hB3.next (Below.refl _ _).drew
  replace hB5 := hB5.next (Below.refl _ _).drew
  have bel6 := bel5.drew
  generalize World.drew w5 = w6 at *
  obtain ⟨s1, hs1⟩ : ∃ s, s = (HM.of ((n : Int) + 1)).1 := ⟨_, rfl⟩
  obtain ⟨s2, hs2⟩ : ∃ s, s = (HM.of ((m : Int) + 1)).1 := ⟨_, rfl⟩
  rw [← hs1] at hB3 hI1 hwl1
  rw [← hs2] at hB5 hI2 hwl2
  rw [← hs1, ← hs2] at hsame
  have hld1 := fun (w' : World) (hw : Below w6.heap.size w6 w') => ldAll (P := Tryd.prog) (ty := 25) (n := 4) (hB3.next hw) hst rfl shapeI4 rfl
  have hld2 := fun (w' : World) (hw : Below w6.heap.size w6 w') => ldAll (P := Tryd.prog) (ty := 25) (n := 4) (hB5.next hw) hst rfl shapeI4 rfl
  simp -implicitDefEqProofs [go_sem]
  refine onTake_of (fun w' => Below w6.heap.size w6 w') (.agg (shapeC s1)) (Below.refl _ _) (fun w' hw => by simp -implicitDefEqProofs [go_sem, (hB3.next hw).cell, shapeC]) ?_
  simp -implicitDefEqProofs [go_sem]
  refine onTake_of (fun w' => Below w6.heap.size w6 w') (.agg (shapeC s2)) (Below.refl _ _) (fun w' hw => by simp -implicitDefEqProofs [go_sem, (hB5.next hw).cell, shapeC]) ?_
  simp -implicitDefEqProofs [go_sem]
  refine callE_of (headWords_calls s1 w6 hI1 hF) ?_
  rintro v w7 ⟨b7, a7, c7, rfl, in7, n7⟩
  refine ⟨.inr (by simp -implicitDefEqProofs [go_sem]; exact b7), ?_⟩
  simp -implicitDefEqProofs [go_sem]
  refine callE_of (headWords_calls s2 w7 hI2 (hF.below b7)) ?_
  rintro v w8 ⟨b8, a8, c8, rfl, in8, n8⟩
  refine ⟨.inr (by simp -implicitDefEqProofs [go_sem]), ?_⟩
  replace in7 := in7.next b8
  replace bel6 := (bel6.trans (b7.mono bel6.size))
  replace bel6 := (bel6.trans (b8.mono bel6.size))
  have l1 := HM.words_len2 s1
  have l2 := HM.words_len2 s2
  have hwn1 : (HM.of ((n : Int) + 1)).2 = false → (HM.words s1).length = 0 := fun h => by rw [hs1, HM.of_none h, HM.words_none4]; rfl
  have hwn2 : (HM.of ((m : Int) + 1)).2 = false → (HM.words s2).length = 0 := fun h => by rw [hs2, HM.of_none h, HM.words_none4]; rfl
  have hwy1 : (HM.of ((n : Int) + 1)).2 = true → (HM.words s1).length = 8 := fun h => by rw [hwl1 h]; rfl
  have hwy2 : (HM.of ((m : Int) + 1)).2 = true → (HM.words s2).length = 8 := fun h => by rw [hwl2 h]; rfl
  cases hi1 : (HM.of ((n : Int) + 1)).2
  · cases hi2 : (HM.of ((m : Int) + 1)).2
    · simp -implicitDefEqProofs [go_sem, hi1, hi2, hwn1 hi1, hwn2 hi2]
      refine body_tmp 4 rfl ?_
      simp -implicitDefEqProofs [go_sem]
      exact bel6
    · simp -implicitDefEqProofs [go_sem, hi1, hi2, hwn1 hi1, hwy2 hi2]
      refine body_tmp 4 rfl ?_
      simp -implicitDefEqProofs [go_sem]
      exact bel6
  · cases hi2 : (HM.of ((m : Int) + 1)).2
    · simp -implicitDefEqProofs [go_sem, hi1, hi2, hwy1 hi1, hwn2 hi2]
      refine body_tmp 4 rfl ?_
      simp -implicitDefEqProofs [go_sem]
      exact bel6
    · have hl8 := hwy1 hi1
      have hl8' := hwy2 hi2
      have hw6 := hwl1 hi1
      have hle7 := in7.le
      have hc7 : (6 : Int) ≤ c7 := by omega
      have hsam := hsame hi1 hi2
      have bel : Below w0.heap.size w0 w8 := bel6
      have hsd : decide (HM.words s1 = HM.words s2) = decide (s1 = s2) := decide_eq_decide.2 hsam
      have hB3' := (hB3.next b7).next b8
      have hB5' := (hB5.next b7).next b8
      have hF' := ((hF.below b7).below b8)
      obtain ⟨W6, hW6⟩ : ∃ W6, W6 = HM.six s1 := ⟨_, rfl⟩
      have hW6l : W6.length = 6 := by rw [hW6]; rfl
      have hget : ∀ k (h : k < 6), (HM.words s1)[k]'(by omega) = W6[k]'(by omega) := fun k h => by
        simp only [hw6, hW6]
        rw [List.getElem_append_left]
      simp -implicitDefEqProofs [go_sem, hi1, hi2, hc7]
      refine wpE_loop (fun e' w' => ∃ (k len : Nat) (b : Option Addr) (d : Nat), k ≤ 6 ∧ e' 5 = .pointer (some ⟨w2.heap.size, 0, none⟩) ∧ e' 7 = .pointer (some ⟨w4.heap.size, 0, none⟩) ∧ e' 9 = .slice a7 (HM.words s1).length c7 ∧ e' 10 = .slice a8 (HM.words s2).length c8 ∧
        e' 11 = .slice b len d ∧ e' 56 = .slice a7 6 c7 ∧ e' 57 = .int .i64 6 ∧ e' 58 = .int .i64 k ∧ len = 8 * k ∧
        w'.ownsRow w8.heap.size 5 1 (.slice b len d) len (cellsK .u8 (HM.wbytes (W6.take k))) ∧ Below w8.heap.size w8 w' ∧ w8.heap.size ≤ w'.heap.size) (fun e' _ => 6 - (intOf (e' 58)).toNat) ?_ ?_
      · refine ⟨0, 0, none, 0, by omega, ?_⟩
        simp -implicitDefEqProofs [go_sem, HM.wbytes]
        exact ⟨World.ownsRow_nil _ _ _ _, Below.refl _ _⟩
      · rintro e' w9 ⟨k, len, b, d, hk, g5, g7, g9, g10, g11, g56, g57, g58, hlen, hown, bel9, hsz⟩
        by_cases hlt : k < 6
        · have hlt' : (k : Int) < 6 := by omega
          have kw1 := IntWalk.i64_in ((k : Int) + 1) (by omega)
          obtain ⟨ba, oa, rfl, ga⟩ := (in7.at_.below bel9).cell (i := k) (by omega)
          rw [hget k hlt] at ga
          simp -implicitDefEqProofs [go_sem, g5, g7, g9, g10, g11, g56, g57, g58, hlt, hlt', ga]
          refine wpE_loop (fun e'' w'' => ∃ (m2 len2 : Nat) (b : Option Addr) (d : Nat), m2 ≤ 8 ∧ e'' 5 = .pointer (some ⟨w2.heap.size, 0, none⟩) ∧ e'' 7 = .pointer (some ⟨w4.heap.size, 0, none⟩) ∧ e'' 9 = .slice (some ⟨ba, oa, none⟩) (HM.words s1).length c7 ∧ e'' 10 = .slice a8 (HM.words s2).length c8 ∧
            e'' 11 = .slice b len2 d ∧ e'' 13 = .int .u64 (uv W6[k]) ∧ e'' 56 = .slice (some ⟨ba, oa, none⟩) 6 c7 ∧ e'' 57 = .int .i64 6 ∧ e'' 58 = .int .i64 k ∧ e'' 62 = .int .i64 m2 ∧ len2 = 8 * k + m2 ∧
            w''.ownsRow w8.heap.size 5 1 (.slice b len2 d) len2 (cellsK .u8 (HM.wbytes (W6.take k) ++ (List.range m2).map (WM.byteOf W6[k]))) ∧ Below w8.heap.size w8 w'' ∧ w8.heap.size ≤ w''.heap.size) (fun e'' _ => 8 - (intOf (e'' 62)).toNat) ?_ ?_
          · refine ⟨0, len, b, d, by omega, ?_⟩
            simp -implicitDefEqProofs [go_sem, g5, g7, g9, g10, g11, g56, g57, g58, hlen]
            subst hlen
            exact ⟨hown, bel9, hsz⟩
          · rintro e'' w10 ⟨m2, len2, b2, d2, hm2, q5, q7, q9, q10, q11, q13, q56, q57, q58, q62, hlen2, hown2, bel10, hsz2⟩
            by_cases hlt2 : m2 < 8
            · have hlt2' : (m2 : Int) < 8 := by omega
              have kw2 := IntWalk.i64_in ((m2 : Int) + 1) (by omega)
              have kw8 := IntWalk.i64_in (8 * (m2 : Int)) (by omega)
              have e8 : (8 * (m2 : Int)).toNat = 8 * m2 := by omega
              have p8 : ¬ 8 * (m2 : Int) < 0 := by omega
              have p8' : 0 ≤ 8 * (m2 : Int) := by omega
              obtain ⟨b3, d3, w11, hr3, hown3, bel11, hsz3⟩ := push_u8 w8.heap.size hown2 (by omega) hsz2 bel10 (WM.byteOf W6[k] m2)
              have hbo : (W6[k] >>> (8 * m2)).setWidth 8 = WM.byteOf W6[k] m2 := rfl
              simp -implicitDefEqProofs [go_sem, q5, q7, q9, q10, q11, q13, q56, q57, q58, q62, hlt2, hlt2', kw2, kw8, e8, p8, p8', hbo, hr3]
              refine goE_round ⟨m2 + 1, len2 + 1, b3, d3, by omega, ?_⟩ ?_
              · simp -implicitDefEqProofs [go_sem, q5, q7, q9, q10, q13, q56, q57, q58]
                refine ⟨by omega, ?_, bel11, hsz3⟩
                rw [← List.append_assoc]
                exact hown3
              · simp -implicitDefEqProofs [go_sem, intOf, q62]; omega
            · have hm' : m2 = 8 := by omega
              subst hm'
              have hlt2' : ¬ (8 : Int) < 8 := by omega
              simp -implicitDefEqProofs [go_sem, q5, q7, q9, q10, q11, q13, q56, q57, q58, q62, hlt2', kw1]
              refine goE_round ⟨k + 1, len2, b2, d2, by omega, ?_⟩ ?_
              · simp -implicitDefEqProofs [go_sem, q5, q7, q9, q10, q11, q56, q57]
                refine ⟨by omega, ?_, bel10, hsz2⟩
                rw [List.take_succ_eq_append_getElem (by omega), HM.wbytes_snoc]
                exact hown2
              · simp -implicitDefEqProofs [go_sem, intOf, g58]; omega
        · have hk' : k = 6 := by omega
          subst hk'
          have hlt' : ¬ (6 : Int) < 6 := by omega
          have h8l : len = 48 := by omega
          have hwb : HM.wbytes (W6.take 6) = HM.wbytes (HM.six s1) := by rw [List.take_of_length_le (by omega), hW6]
          rw [hwb] at hown
          subst h8l
          have inB := owns_slIn (by rw [HM.wbytes_len]; rfl) hown
          simp -implicitDefEqProofs [go_sem, g5, g7, g9, g10, g11, g56, g57, g58, hlt']
          refine drawE_mix [.pure 0, .pure 1, .take 3, .take 4, .pure 5, .run 2 [3, 4], .pure 6, .pure 7, .pure 8, .pure 9, .pure 11, .take 10, .run 12 [10], .run 13 [10], .pure 14, .pure 15, .pure 16, .pure 17, .pure 18, .run 19 [], .pure 20, .pure 21, .pure 22] mixed (by decide +kernel) (by simp only [withOps, MStep.num, List.filterMap_cons, List.filterMap_nil, List.getElem?_cons_succ, List.getElem?_cons_zero, Option.map_some]; rfl) ?_
          have bd := bel9.drew
          replace hown := ownsRow_next hown (Below.refl _ _).drew
          generalize World.drew w9 = w10 at *
          replace hB3' := hB3'.next bd
          replace hB5' := hB5'.next bd
          have in7' := in7.next bd
          have in8' := in8.next bd
          replace inB := owns_slIn (by rw [HM.wbytes_len]; rfl) hown
          have bel10 := bel.trans (bd.mono bel.size)
          simp -implicitDefEqProofs [go_sem, g5, g7, g9, g10, g11]
          refine onTake_of (fun w' => Below w10.heap.size w10 w') (.agg (shapeC s1)) (Below.refl _ _) (fun w' hw => by simp -implicitDefEqProofs [go_sem, (hB3'.next hw).cell, shapeC]) ?_
          simp -implicitDefEqProofs [go_sem, g5, g7, g9, g10, g11]
          refine onTake_of (fun w' => Below w10.heap.size w10 w') (.agg (shapeC s2)) (Below.refl _ _) (fun w' hw => by simp -implicitDefEqProofs [go_sem, (hB5'.next hw).cell, shapeC]) ?_
          simp -implicitDefEqProofs [go_sem, g5, g7, g9, g10, g11, shapeC_0, shapeC_1, shapeC_2, shapeC_3]
          refine callE_of (sameW_calls a7 a8 (HM.words s1) (HM.words s2) _ _ c7 c8 w10 rfl rfl (by omega) in7'.at_ in8'.at_) ?_
          rintro v w11 ⟨rfl, b11⟩
          refine ⟨.inr (by simp -implicitDefEqProofs [go_sem]; exact b11), ?_⟩
          have in7'' := in7'.next b11
          have inB' := inB.next b11
          have c6 := in7''.at_.cell (i := 6) (by omega)
          have c7c := in7''.at_.cell (i := 7) (by omega)
          obtain ⟨ba, oa, ha7, k6⟩ := c6
          obtain ⟨ba', oa', ha7', k7⟩ := c7c
          subst ha7
          obtain ⟨rfl, rfl⟩ : ba = ba' ∧ oa = oa' := by simpa using ha7'
          have e6 : (HM.words s1)[6]'(by omega) = (Crc.next 0#32 (HM.wbytes (HM.six s1))).setWidth 64 := by simp only [hw6]; rfl
          have e7 : (HM.words s1)[7]'(by omega) = 0#64 := by simp only [hw6]; rfl
          rw [e6] at k6
          rw [e7] at k7
          have hl6 : (6 : Int) < (HM.words s1).length := by omega
          have hl7 : (7 : Int) < (HM.words s1).length := by omega
          simp -implicitDefEqProofs [go_sem, g5, g7, g9, g10, g11, shape_eq, hsd, hl6, hl7, k6, k7]
          refine onTake_of (fun w' => Below w11.heap.size w11 w') (.int .u64 (uv ((Crc.next 0#32 (HM.wbytes (HM.six s1))).setWidth 64))) (Below.refl _ _) (fun w' hw => by simp -implicitDefEqProofs [go_sem, cell_next k6 hw]) ?_
          simp -implicitDefEqProofs [go_sem, g5, g7, g9, g10, g11, shape_eq, hsd, hl6, hl7]
          refine callE_of (refSum_calls b (HM.wbytes (HM.six s1)) 48 d w11 (by rw [HM.wbytes_len]; rfl) (by decide) inB'.at_) ?_
          rintro v w12 ⟨rfl, rfl⟩
          refine ⟨.inr (by simp -implicitDefEqProofs [go_sem]; exact Below.refl _ _), ?_⟩
          simp -implicitDefEqProofs [go_sem, g5, g7, g9, g10, g11, shape_eq, hsd, hl6, hl7, k7]
          refine body_tmp 4 rfl ?_
          simp -implicitDefEqProofs [go_sem]
          exact bel10.trans (b11.mono bel10.size)
theorem headShapes_walk (n : Int) (s : HM.Shape) (w0 : World) (hF : Fours w0) (hn : I64 n) (hs : s.I) : Ret Tryd.prog 3 #[.int .i64 n, .agg (shapeC s)] w0 fun v w' => v = .bool true ∧ Below w0.heap.size w0 w' := by
  have bel0 := Below.refl w0.heap.size w0
  have hst : Tryd.prog.underlying 25 = _ := Tryd.underlying25
  have hrst : Tryd.prog.underlying 23 = _ := Tryd.underlying23
  refine ret_of (args := [_, _]) _ Tryd.func3 rfl Tryd.ntmps3 (by simp) ?_
  simp -implicitDefEqProofs [go_sem]
  generalize hw1 : World.alloc w0 _ = w1 at *
  obtain ⟨hB1, b1, sz1⟩ := new_facts hw1
  have bel1 := bel0.trans (b1.mono bel0.size)
  replace hF := hF.next b1
  refine callE_of (alive_calls w1 hF) ?_
  rintro v w2 ⟨rfl, b2⟩
  have bel2 := bel1.trans (b2.mono bel1.size)
  replace hB1 := hB1.next b2
  replace hF := hF.next b2
  by_cases h1 : n < -1099511627776
  · have hno : (HM.of n).2 = false := by
      cases hb : (HM.of n).2
      · rfl
      · have := HM.of_some hb; omega
    simp -implicitDefEqProofs [go_sem, h1]
    refine callE_of (headOf_calls n w2 hn) ?_
    rintro v w3 ⟨rfl, b3⟩
    have bel3 := bel2.trans (b3.mono bel2.size)
    replace hB1 := hB1.next b3
    replace hF := hF.next b3
    simp -implicitDefEqProofs [go_sem, ↓stShape (HM.of n).1]
    generalize hw4 : World.alloc w3 _ = w4 at *
    obtain ⟨hB4, b4, sz4⟩ := new_facts hw4
    have bel4 := bel3.trans (b4.mono bel3.size)
    simp -implicitDefEqProofs [go_sem, hno]
    refine body_tmp 4 rfl ?_
    simp -implicitDefEqProofs [go_sem]
    exact bel4
  by_cases h2 : 1099511627776 < n
  · have hno : (HM.of n).2 = false := by
      cases hb : (HM.of n).2
      · rfl
      · have := HM.of_some hb; omega
    simp -implicitDefEqProofs [go_sem, h1, h2]
    refine callE_of (headOf_calls n w2 hn) ?_
    rintro v w3 ⟨rfl, b3⟩
    have bel3 := bel2.trans (b3.mono bel2.size)
    replace hB1 := hB1.next b3
    replace hF := hF.next b3
    simp -implicitDefEqProofs [go_sem, ↓stShape (HM.of n).1]
    generalize hw4 : World.alloc w3 _ = w4 at *
    obtain ⟨hB4, b4, sz4⟩ := new_facts hw4
    have bel4 := bel3.trans (b4.mono bel3.size)
    simp -implicitDefEqProofs [go_sem, hno]
    refine body_tmp 4 rfl ?_
    simp -implicitDefEqProofs [go_sem]
    exact bel4
  simp -implicitDefEqProofs [go_sem, h1, h2]
  refine callE_of (headOf_calls n w2 hn) ?_
  rintro v w3 ⟨rfl, b3⟩
  have bel3 := bel2.trans (b3.mono bel2.size)
  replace hB1 := hB1.next b3
  replace hF := hF.next b3
  simp -implicitDefEqProofs [go_sem, ↓stShape (HM.of n).1]
  generalize hw4 : World.alloc w3 _ = w4 at *
  obtain ⟨hB4, b4, sz4⟩ := new_facts hw4
  have bel4 := bel3.trans (b4.mono bel3.size)
  replace hB1 := hB1.next b4
  replace hF := hF.next b4
  refine callE_of (refOf_calls n w4 hn) ?_
  rintro v w5 ⟨rfl, b5⟩
  have bel5 := bel4.trans (b5.mono bel4.size)
  replace hB1 := hB1.next b5
  replace hB4 := hB4.next b5
  replace hF := hF.next b5
  simp -implicitDefEqProofs [go_sem, ↓stRShape (HM.of n).1]
  generalize hw6 : World.alloc w5 _ = w6 at *
  obtain ⟨hB6, b6, sz6⟩ := new_facts hw6
  have bel6 := bel5.trans (b6.mono bel5.size)
  replace hB1 := hB1.next b6
  replace hB4 := hB4.next b6
  replace hF := hF.next b6
  have hI := HM.of_i (n := n) hn
  generalize (HM.of n).1 = t at *
  refine drawE_mix [.take 0, .run 1 [0], .pure 2, .pure 3, .pure 4, .pure 5, .pure 6, .pure 7, .pure 8, .take 9, .take 11, .run 10 [11], .run 12 [], .run 13 [], .pure 14, .pure 15, .take 16, .take 18, .run 17 [18], .run 19 [], .run 20 [], .pure 21, .pure 22] mixed (by decide +kernel) (by simp only [withOps, MStep.num, List.filterMap_cons, List.filterMap_nil, List.getElem?_cons_succ, List.getElem?_cons_zero, Option.map_some]; rfl) ?_
  have bd : Below w6.heap.size w6 w6.drew := (Below.refl _ _).drew
  have bel7 := bel6.drew
  replace hB1 := hB1.next bd
  replace hB4 := hB4.next bd
  replace hB6 := hB6.next bd
  replace hF := hF.next bd
  generalize World.drew w6 = w7 at *
  have sq1 : (decide (t.lines = t.lines) && (decide (t.slabs = t.slabs) && (decide (t.table = t.table) && decide (t.data = t.data)))) = true := by simp
  simp -implicitDefEqProofs [go_sem]
  refine onTake_of (fun w' => Below w7.heap.size w7 w') (.agg (shapeC t)) (Below.refl _ _) (fun w' hw => by simp -implicitDefEqProofs [go_sem, (hB4.next hw).cell, shapeC]) ?_
  simp -implicitDefEqProofs [go_sem, hB6.cell, shapeC_0, shapeC_1, shapeC_2, shapeC_3]
  refine onTake_of (fun w' => Below w7.heap.size w7 w') (.agg (shapeC s)) (Below.refl _ _) (fun w' hw => by simp -implicitDefEqProofs [go_sem, (hB1.next hw).cell, shapeC]) ?_
  simp -implicitDefEqProofs [go_sem]
  refine onTake_of (fun w' => Below w7.heap.size w7 w') (.agg (shapeC s)) (Below.refl _ _) (fun w' hw => by simp -implicitDefEqProofs [go_sem, (hB1.next hw).cell, shapeC]) ?_
  simp -implicitDefEqProofs [go_sem]
  refine callE_of (headWords_calls s w7 hs hF) ?_
  rintro v w8 ⟨b8, a8, c8, rfl, in8, n8⟩
  refine ⟨.inr (by simp -implicitDefEqProofs [go_sem]; exact b8), ?_⟩
  simp -implicitDefEqProofs [go_sem]
  refine callE_of (refWords_calls s w8 hs) ?_
  rintro v w9 ⟨b9, a9, c9, rfl, in9⟩
  refine ⟨.inr (by simp -implicitDefEqProofs [go_sem]), ?_⟩
  replace in8 := in8.next b9
  have hle := words_le4 s
  simp -implicitDefEqProofs [go_sem]
  refine callE_of (sameW_calls a8 a9 (HM.words s) (HM.words s) _ _ c8 c9 w9 rfl rfl (by omega) in8.at_ in9.at_) ?_
  rintro v w10 ⟨rfl, b10⟩
  refine ⟨.inr (by simp -implicitDefEqProofs [go_sem]), ?_⟩
  have hB4' := ((hB4.next b8).next b9).next b10
  have hB6' := ((hB6.next b8).next b9).next b10
  have hF10 := ((hF.next b8).next b9).next b10
  have bel8 := bel7.trans (b8.mono bel7.size)
  have bel9 := bel8.trans (b9.mono bel8.size)
  have bel10 := bel9.trans (b10.mono bel9.size)
  simp -implicitDefEqProofs [go_sem]
  refine onTake_of (fun w' => Below w10.heap.size w10 w') (.agg (shapeC t)) (Below.refl _ _) (fun w' hw => by simp -implicitDefEqProofs [go_sem, (hB4'.next hw).cell, shapeC]) ?_
  simp -implicitDefEqProofs [go_sem]
  refine onTake_of (fun w' => Below w10.heap.size w10 w') (.agg (shapeC t)) (Below.refl _ _) (fun w' hw => by simp -implicitDefEqProofs [go_sem, (hB6'.next hw).cell, shapeC]) ?_
  simp -implicitDefEqProofs [go_sem]
  refine callE_of (headWords_calls t w10 hI hF10) ?_
  rintro v w11 ⟨b11, a11, c11, rfl, in11, n11⟩
  refine ⟨.inr (by simp -implicitDefEqProofs [go_sem]; exact b11), ?_⟩
  simp -implicitDefEqProofs [go_sem]
  refine callE_of (refWords_calls t w11 hI) ?_
  rintro v w12 ⟨b12, a12, c12, rfl, in12⟩
  refine ⟨.inr (by simp -implicitDefEqProofs [go_sem]), ?_⟩
  replace in11 := in11.next b12
  have hle2 := words_le4 t
  simp -implicitDefEqProofs [go_sem]
  refine callE_of (sameW_calls a11 a12 (HM.words t) (HM.words t) _ _ c11 c12 w12 rfl rfl (by omega) in11.at_ in12.at_) ?_
  rintro v w13 ⟨rfl, b13⟩
  refine ⟨.inr (by simp -implicitDefEqProofs [go_sem]), ?_⟩
  simp -implicitDefEqProofs [go_sem]
  refine body_tmp 4 rfl ?_
  simp -implicitDefEqProofs [go_sem]
  have bel11 := bel10.trans (b11.mono bel10.size)
  have bel12 := bel11.trans (b12.mono bel11.size)
  exact bel12.trans (b13.mono bel12.size)
end
end Go.Proofs.YtfppphmlepdopaaDoor
