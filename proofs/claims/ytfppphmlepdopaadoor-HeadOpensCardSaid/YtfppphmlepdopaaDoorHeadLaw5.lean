/- HeadOpens: its walk. -/
import Derived.Test.YtfppphmlepdopaaDoorHeadRef2
import Derived.Test.YtfppphmlepdopaaDoorHeadLaw3
import Derived.Test.YtfppphmlepdopaaDoorNvmOf
namespace Go.Proofs.YtfppphmlepdopaaDoor
set_option linter.unusedVariables false
set_option linter.unusedSimpArgs false
open Go Go.RowKit

namespace NM
open WM
theorem ofD_len (l : List (BitVec 8)) : (ofD l).ls.length = l.length / 64 := partD_len _ _ _
theorem ofD_up (l : List (BitVec 8)) : (ofD l).Up := ⟨rfl, rfl⟩
theorem ofD_steps (l : List (BitVec 8)) : (ofD l).steps = 0 := rfl
theorem ofD_image {l : List (BitVec 8)} (h : rightLen l.length) : (ofD l).image = l := by
  have hl := image_len (ofD_ok h)
  have hs : (ofD l).size = l.length := by unfold Dv.size; rw [ofD_len]; have := h.1; omega
  apply List.ext_getElem
  · rw [hl, hs]
  · intro i h1 h2
    have hi : i < (ofD l).size := by rw [hs]; exact h2
    have h3 := image_at (ofD_ok h) hi
    have hln : (ofD l).ln (i / 64) = chunk l (i / 64) := by
      have := h.1
      unfold ofD; rw [partD_ln _ _ _ _ (by omega), if_pos (by omega)]
    rw [hln] at h3
    have e1 : (ofD l).image[i] = (ofD l).image.getD i 0#8 := by simp [List.getD, h1]
    rw [e1, h3]
    unfold chunk
    simp only [List.getD_eq_getElem?_getD, List.getElem?_take, List.getElem?_drop]
    rw [if_pos (by omega), show 64 * (i / 64) + i % 64 = i by omega]
    simp [h2]
end NM
section
set_option linter.unusedSimpArgs false
set_option maxHeartbeats 4000000 in
theorem headOpens_walk (a : Option Addr) (l : List (BitVec 8)) (c : Nat) (w0 : World) (hF : Fours w0) (hin : SlIn .u8 w0 a l c) : Ret Tryd.prog 8 #[.slice a l.length c] w0 fun v w' => v = .bool true ∧ Below w0.heap.size w0 w' := by
  have bel0 := Below.refl w0.heap.size w0
  have hst : Tryd.prog.underlying 25 = _ := Tryd.underlying25
  have hrst : Tryd.prog.underlying 23 = _ := Tryd.underlying23
  have hin0 := hin
  refine ret_of (args := [_]) _ Tryd.func8 rfl Tryd.ntmps8 (by simp) ?_
  simp -implicitDefEqProofs [go_sem]
  refine callE_of (alive_calls w0 hF) ?_
  rintro v w1 ⟨rfl, b1⟩
  have bel1 := bel0.trans (b1.mono bel0.size)
  replace hin := hin.next b1
  replace hF := hF.next b1
  simp -implicitDefEqProofs [go_sem]
  refine callE_of (of_calls a l c w1 hin) ?_
  rintro v w2 ⟨b2, ⟨hno, rfl⟩ | ⟨hr, p, F, rfl, hD, hFg⟩⟩
  · have bel2 := bel1.trans (b2.mono bel1.size)
    replace hin := hin.next b2
    replace hF := hF.next b2
    simp -implicitDefEqProofs [go_sem]
    refine callE_of (openN_calls w2) ?_
    rintro v w3 ⟨rfl, b3⟩
    have bel3 := bel2.trans (b3.mono bel2.size)
    simp -implicitDefEqProofs [go_sem, ↓stShape HM.none4]
    generalize hw4 : World.alloc w3 _ = w4 at *
    obtain ⟨hB4, b4, sz4⟩ := new_facts hw4
    have bel4 := bel3.trans (b4.mono bel3.size)
    refine body_tmp 2 rfl ?_
    simp -implicitDefEqProofs [go_sem]
    exact bel4
  · have bel2 := bel1.trans (b2.mono bel1.size)
    replace hin := hin.next b2
    replace hF := hF.next b2
    have hS2 : St w0 w2 p F (ofD l) := ⟨hD, bel2, fun k hk => by have := hFg k hk; have := bel1.size; omega⟩
    by_cases hbig : (6400 : Int) < l.length
    · simp -implicitDefEqProofs [go_sem, hbig]
      refine callE_of (openH_calls w2 hS2.dev hF) ?_
      rintro v w3 ⟨rfl, b3⟩
      have bel3 := bel2.trans (b3.mono bel2.size)
      simp -implicitDefEqProofs [go_sem, ↓stShape (ofD l).openH.1]
      generalize hw4 : World.alloc w3 _ = w4 at *
      obtain ⟨hB4, b4, sz4⟩ := new_facts hw4
      have bel4 := bel3.trans (b4.mono bel3.size)
      refine body_tmp 2 rfl ?_
      simp -implicitDefEqProofs [go_sem]
      exact bel4
    · obtain ⟨N, hN⟩ : ∃ N, N = l.length / 64 := ⟨_, rfl⟩
      obtain ⟨r1, r2, r3⟩ := hr
      have hlen : l.length = 64 * N := by omega
      have hDl := NM.ofD_len l
      rw [← hN] at hDl
      have hDu := NM.ofD_up l
      have hDi := NM.ofD_image (l := l) ⟨r1, r2, r3⟩
      have hDs := NM.ofD_steps l
      generalize ofD l = D at *
      simp -implicitDefEqProofs [go_sem, hbig]
      refine wpE_loop (fun e' w' => ∃ (k : Nat) (b : Option Addr) (d : Nat), k ≤ 8 ∧ e' 0 = .slice a l.length c ∧ e' 3 = .pointer (some ⟨p, 0, none⟩) ∧ e' 6 = .slice b k d ∧ e' 36 = .int .i64 k ∧
        w'.ownsRow w2.heap.size 38 1 (.slice b k d) k (cellsK .u64 ((wordsAt D 0 8).take k)) ∧ Below w2.heap.size w2 w' ∧ w2.heap.size ≤ w'.heap.size) (fun e' _ => 8 - (intOf (e' 36)).toNat) ?_ ?_
      · refine ⟨0, none, 0, by omega, ?_⟩
        simp -implicitDefEqProofs [go_sem]
        exact ⟨World.ownsRow_nil _ _ _ _, Below.refl _ _⟩
      · rintro e' w3 ⟨k, b, d, hk, g0, g3, g6, g36, hown, bel3, hsz⟩
        have hS3 := hS2.next bel3
        by_cases hlt : k < 8
        · have hlt' : (k : Int) < 8 := by omega
          have kw1 := IntWalk.i64_in ((k : Int) + 1) (by omega)
          have kw8 := IntWalk.i64_in (8 * (k : Int)) (by omega)
          have hld : D.load (8 * (k : Int)) = (D.word (8 * k), 0) := by
            have := load_in (D := D) (by omega) (o := 8 * k) (by omega) (by unfold NM.Dv.size; omega)
            rw [show ((8 * k : Nat) : Int) = 8 * (k : Int) by omega, if_neg (by rw [hDu.down]; simp)] at this
            exact this
          simp -implicitDefEqProofs [go_sem, g0, g3, g6, g36, hlt, hlt', kw8]
          refine callE_of (loadB (8 * (k : Int)) w3 hS3.dev (by unfold I64; omega)) ?_
          rintro v w4 ⟨rfl, rfl⟩
          rw [hld]
          obtain ⟨b3, d3, w5, hr3, hown3, bel5, hsz3⟩ := push_u64 w2.heap.size hown (by omega) hsz bel3 (D.word (8 * k))
          simp -implicitDefEqProofs [go_sem, g0, g3, g6, g36, hr3, kw1]
          refine goE_round ⟨k + 1, b3, d3, by omega, ?_⟩ ?_
          · simp -implicitDefEqProofs [go_sem, g0, g3]
            refine ⟨?_, bel5, hsz3⟩
            rw [List.take_succ_eq_append_getElem (by rw [wordsAt_len]; omega)]
            have hg : (wordsAt D 0 8)[k]'(by rw [wordsAt_len]; omega) = D.word (8 * k) := by simp [wordsAt]
            rw [hg]
            exact hown3
          · simp -implicitDefEqProofs [go_sem, intOf, g36]; omega
        · have hk' : k = 8 := by omega
          subst hk'
          have hlt' : ¬ (8 : Int) < 8 := by omega
          have hwl := wordsAt_len D 0 8
          rw [List.take_of_length_le (by omega)] at hown
          have inW := owns_slIn hwl hown
          have hdq : (l.length : Int) / 64 = (N : Int) := by omega
          have hdt : (l.length : Int).tdiv 64 = (N : Int) := by rw [Int.tdiv_eq_ediv_of_nonneg (by omega)]; omega
          have kwN := IntWalk.i64_in (N : Int) (by omega)
          simp -implicitDefEqProofs [go_sem, g0, g3, g6, g36, hlt', hdq, hdt, kwN]
          refine callE_of (refOpen_calls b (wordsAt D 0 8) d (N : Int) w3 (by unfold I64; omega) hwl inW) ?_
          rintro v w4 ⟨rfl, b4⟩
          have bel4 := bel2.trans ((bel3.trans (b4.mono bel3.size)).mono bel2.size)
          replace hS3 := hS3.next b4
          simp -implicitDefEqProofs [go_sem, g0, g3, g6, g36, ↓stRShape (HM.openR (wordsAt D 0 8) N).1]
          generalize hw5 : World.alloc w4 _ = w5 at *
          obtain ⟨hB5, b5, sz5⟩ := new_facts hw5
          have bel5 := bel4.trans (b5.mono bel4.size)
          replace hS3 := hS3.next b5
          have hF5 := (hF.next bel3).next b4
          replace hF5 := hF5.next b5
          refine callE_of (openH_calls w5 hS3.dev hF5) ?_
          rintro v w6 ⟨rfl, b6⟩
          have bel6 := bel5.trans (b6.mono bel5.size)
          replace hS3 := hS3.next b6
          replace hB5 := hB5.next b6
          have hop := NM.open_up (D := D) (by omega) hDu.down
          rw [hDl] at hop
          have hR : D.openH = ((HM.openR (wordsAt D 0 8) N).1, if (HM.openR (wordsAt D 0 8) N).2 = true then 0 else 5) := by
            rw [hop]; unfold HM.openR; split <;> rfl
          simp -implicitDefEqProofs [go_sem, g0, g3, g6, g36, ↓stShape D.openH.1]
          generalize hw7 : World.alloc w6 _ = w7 at *
          obtain ⟨hB7, b7, sz7⟩ := new_facts hw7
          have bel7 := bel6.trans (b7.mono bel6.size)
          replace hS3 := hS3.next b7
          replace hB5 := hB5.next b7
          rw [hR] at hB7
          rw [hR]
          generalize HM.openR (wordsAt D 0 8) N = R at *
          refine drawE_mix [.take 0, .run 1 [0], .pure 2, .pure 3, .pure 4, .pure 5, .pure 6, .pure 7, .pure 8, .pure 9, .pure 10, .pure 11, .pure 12, .pure 13, .pure 14, .pure 15, .pure 16, .pure 17, .pure 20, .take 21, .run 18 [21], .run 19 [21], .pure 22, .pure 23, .pure 24, .pure 25, .run 26 [], .pure 27, .pure 28, .pure 29] mixed (by decide +kernel) (by simp only [withOps, MStep.num, List.filterMap_cons, List.filterMap_nil, List.getElem?_cons_succ, List.getElem?_cons_zero, Option.map_some]; rfl) ?_
          have bd : Below w7.heap.size w7 w7.drew := (Below.refl _ _).drew
          have bel8 := bel7.drew
          replace hB5 := hB5.next bd
          replace hB7 := hB7.next bd
          replace hS3 := hS3.next bd
          generalize World.drew w7 = w8 at *
          have hin8 : SlIn .u8 w8 a l c := hin0.below bel8
          have hsh := shape_eq R.1 R.1
          rw [decide_eq_true rfl] at hsh
          have hsteps : (D.steps : Int) = 0 := by omega
          have hDlen : D.size = l.length := by unfold NM.Dv.size; omega
          have himl := NM.image_len hS3.dev.ok
          simp -implicitDefEqProofs [go_sem, g0, g3]
          refine onTake_of (fun w' => Below w8.heap.size w8 w') (.agg (shapeC R.1)) (Below.refl _ _) (fun w' hw => by simp -implicitDefEqProofs [go_sem, (hB7.next hw).cell, shapeC]) ?_
          simp -implicitDefEqProofs [go_sem, g0, g3, hB5.cell, shapeC_0, shapeC_1, shapeC_2, shapeC_3]
          cases hR2 : R.2
          · simp -implicitDefEqProofs [go_sem, g0, g3, hR2]
            refine onTake_of (fun w' => Below w8.heap.size w8 w') (.string (strB l)) (Below.refl _ _) (fun w' hw => by simp -implicitDefEqProofs [go_sem, img_str hin8 rfl hw]) ?_
            simp -implicitDefEqProofs [go_sem, g0, g3, hR2]
            refine callE_of (imageB w8 hS3.dev) ?_
            rintro v w9 ⟨a9, c9, rfl, in9, b9, n9⟩
            refine ⟨.inr (by simp -implicitDefEqProofs [go_sem]; exact b9), ?_⟩
            simp -implicitDefEqProofs [go_sem, g0, g3, img_str in9 himl.symm (Below.refl _ _), hDi]
            refine callE_of (stepsB w9 (hS3.next b9).dev) ?_
            rintro v w10 ⟨rfl, rfl⟩
            refine ⟨.inr (by simp -implicitDefEqProofs [go_sem]), ?_⟩
            simp -implicitDefEqProofs [go_sem, hsteps, hDs]
            refine body_tmp 2 rfl ?_
            simp -implicitDefEqProofs [go_sem]
            exact bel8.trans (b9.mono bel8.size)
          · simp -implicitDefEqProofs [go_sem, g0, g3, hR2]
            refine onTake_of (fun w' => Below w8.heap.size w8 w') (.string (strB l)) (Below.refl _ _) (fun w' hw => by simp -implicitDefEqProofs [go_sem, img_str hin8 rfl hw]) ?_
            simp -implicitDefEqProofs [go_sem, g0, g3, hR2]
            refine callE_of (imageB w8 hS3.dev) ?_
            rintro v w9 ⟨a9, c9, rfl, in9, b9, n9⟩
            refine ⟨.inr (by simp -implicitDefEqProofs [go_sem]; exact b9), ?_⟩
            simp -implicitDefEqProofs [go_sem, g0, g3, img_str in9 himl.symm (Below.refl _ _), hDi]
            refine callE_of (stepsB w9 (hS3.next b9).dev) ?_
            rintro v w10 ⟨rfl, rfl⟩
            refine ⟨.inr (by simp -implicitDefEqProofs [go_sem]), ?_⟩
            simp -implicitDefEqProofs [go_sem, hsteps, hDs]
            refine body_tmp 2 rfl ?_
            simp -implicitDefEqProofs [go_sem]
            exact bel8.trans (b9.mono bel8.size)
end
end Go.Proofs.YtfppphmlepdopaaDoor
