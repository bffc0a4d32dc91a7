/- Put, PutAll: walks. -/
import Derived.Test.YtkljlgahdlgmpaaSure
import Derived.Test.YtkljlgahdlgmpaaNvmLaw1
namespace Go.Proofs.Ytkljlgahdlgmpaa
open Go Go.RowKit

def NM.Dv.within (D : NM.Dv) (off many : Int) : Int :=
  if D.ls.length = 0 then 1 else if off < 0 ∨ (D.size : Int) < off ∨ off.tmod 8 ≠ 0 then 4 else if many < 0 ∨ ((D.size : Int) - off).tdiv 8 < many then 4 else 0
def putS (off : Int) (n : BitVec 64) : List StepV := [.store off n, .flush off, .fence]
section
set_option linter.unusedSimpArgs false
variable {p : Nat} {F : Nat → Prop} {D : NM.Dv}
theorem within_calls (off many : Int) (w : World) (h : DevB w p F D) (ho : I64 off) (hm : I64 many) :
    Ret Try.prog 57 #[.pointer (some ⟨p, 0, none⟩), .int .i64 off, .int .i64 many] w fun v w' => v = .int .i64 (D.within off many) ∧ w' = w := by
  have hpos := h.pos
  have hmost := h.ok.most
  have hs0 : ((D.size : Int) == 0) = false := by rw [beq_eq_false_iff_ne]; unfold NM.Dv.size; omega
  have hs0' : ¬ D.size = 0 := by unfold NM.Dv.size; omega
  have hl0 : ¬ D.ls.length = 0 := by omega
  have hsz : (D.size : Int) ≤ 65536 := by unfold NM.Dv.size; omega
  unfold I64 at ho hm
  refine ret_of (args := [_, _, _]) _ Try.func57 rfl Try.ntmps57 (by simp) ?_
  simp -implicitDefEqProofs [go_sem]
  refine callE_of (sizeB w h) ?_
  rintro v w1 ⟨rfl, rfl⟩
  by_cases h1 : off < 0
  · simp -implicitDefEqProofs [go_sem, hs0, hs0', h1]
    refine body_tmp 6 rfl ?_
    simp -implicitDefEqProofs [go_sem, NM.Dv.within, hl0, h1]
  by_cases h2 : (D.size : Int) < off
  · simp -implicitDefEqProofs [go_sem, hs0, hs0', h1, h2]
    refine body_tmp 6 rfl ?_
    simp -implicitDefEqProofs [go_sem, NM.Dv.within, hl0, h1, h2]
  by_cases h3 : off.tmod 8 = 0
  · have h3' : (off.tmod 8 != 0) = false := by rw [bne_eq_false_iff_eq]; exact h3
    have hw1 := IntWalk.i64_in ((D.size : Int) - off) (by omega)
    have hdv : ((D.size : Int) - off).tdiv 8 ≤ 65536 ∧ 0 ≤ ((D.size : Int) - off).tdiv 8 := by
      rw [Int.tdiv_eq_ediv_of_nonneg (by omega)]; omega
    have hw2 := IntWalk.i64_in (((D.size : Int) - off).tdiv 8) (by omega)
    have hdd : ((D.size : Int) - off).tdiv 8 = ((D.size : Int) - off) / 8 := Int.tdiv_eq_ediv_of_nonneg (by omega)
    have hw3 := hw2
    rw [hdd] at hw3
    by_cases h4 : many < 0
    · simp -implicitDefEqProofs [go_sem, hs0, hs0', h1, h2, h3', h4]
      refine body_tmp 6 rfl ?_
      simp -implicitDefEqProofs [go_sem, NM.Dv.within, hl0, h1, h2, h3, h4]
    by_cases h5 : ((D.size : Int) - off).tdiv 8 < many
    · have h5' : ((D.size : Int) - off) / 8 < many := by rw [← hdd]; exact h5
      simp -implicitDefEqProofs [go_sem, hs0, hs0', h1, h2, h3', h4, h5, h5', hw1, hw2, hw3]
      refine body_tmp 6 rfl ?_
      simp -implicitDefEqProofs [go_sem, NM.Dv.within, hl0, h1, h2, h3, h4, h5]
    · have h5' : ¬ ((D.size : Int) - off) / 8 < many := by rw [← hdd]; exact h5
      simp -implicitDefEqProofs [go_sem, hs0, hs0', h1, h2, h3', h4, h5, h5', hw1, hw2, hw3]
      refine body_tmp 6 rfl ?_
      simp -implicitDefEqProofs [go_sem, NM.Dv.within, hl0, h1, h2, h3, h4, h5]
  · have h3' : (off.tmod 8 != 0) = true := by rw [bne_iff_ne]; exact h3
    simp -implicitDefEqProofs [go_sem, hs0, hs0', h1, h2, h3']
    refine body_tmp 6 rfl ?_
    simp -implicitDefEqProofs [go_sem, NM.Dv.within, hl0, h1, h2, h3]

set_option maxHeartbeats 1000000 in
theorem put_calls' (off : Int) (n : BitVec 64) (w0 : World) (h : DevB w0 p F D) (ho : I64 off) (hc : D.steps + 3 < 1099511627776) :
    Ret Try.prog 42 #[.pointer (some ⟨p, 0, none⟩), .int .i64 off, .int .u64 (uv n)] w0 fun v w' => v = .int .i64 (runS D (putS off n)).2 ∧ ∃ F', DevB w' p F' (runS D (putS off n)).1 ∧ Turn w0 F w' F' := by
  have bel0 := Below.refl w0.heap.size w0
  refine ret_of (args := [_, _, _]) _ Try.func42 rfl Try.ntmps42 (by simp) ?_
  simp -implicitDefEqProofs [go_sem]
  refine callE_of (mkStore_calls off n w0 h) ?_
  rintro v1 w1 ⟨b1, s1⟩
  have bel1 := bel0.trans (b1.mono bel0.size)
  replace h := h.next b1
  simp -implicitDefEqProofs [go_sem]
  refine callE_of (mkFlush_calls off w1 h) ?_
  rintro v2 w2 ⟨b2, s2⟩
  have bel2 := bel1.trans (b2.mono bel1.size)
  replace h := h.next b2
  replace s1 := s1.next b2
  have hlt2 := h.lt
  obtain ⟨f1, x1, y1, rfl⟩ := s1.func
  obtain ⟨f2, x2, y2, rfl⟩ := s2.func
  simp -implicitDefEqProofs [go_sem]
  generalize hw3 : World.alloc w2 _ = w3 at *
  obtain ⟨hB3, b3, sz3⟩ := new_facts hw3
  have bel3 := bel2.trans (b3.mono bel2.size)
  replace h := h.next b3
  replace s1 := s1.next b3
  replace s2 := s2.next b3
  have hin : StepsIn w3 F p (some ⟨w2.heap.size, 0, none⟩) [.func (.func f1) x1 y1, .func (.func f2) x2 y2, .func (.func 18) #[.pointer (some ⟨p, 0, none⟩)] #[]] (putS off n) 3 := by
    refine ⟨⟨vsAt_blk hB3 (fun i hi => ?_), by simp, by decide, fun h => by cases h⟩, fun y hy => ?_, rfl, fun i hi hi' => ?_⟩
    · have : i = 0 ∨ i = 1 ∨ i = 2 := by simp at hi; omega
      rcases this with rfl | rfl | rfl <;> rfl
    · obtain rfl : _ = y := Option.some.inj hy
      exact ⟨by simp; omega, fun hf => by have := hlt2 _ hf; simp at this⟩
    · have : i = 0 ∨ i = 1 ∨ i = 2 := by simp [putS] at hi; omega
      rcases this with rfl | rfl | rfl
      · exact s1
      · exact s2
      · rfl
  have hrun := run_calls (some ⟨w2.heap.size, 0, none⟩) _ (putS off n) 3 w3 h hin (by
    intro s hs
    simp [putS] at hs
    rcases hs with rfl | rfl | rfl
    · exact ho
    · exact ho
    · trivial) (by simpa [putS] using hc)
  refine callE_of hrun ?_
  rintro v w4 ⟨rfl, F4, h4, t4⟩
  simp -implicitDefEqProofs [go_sem]
  refine body_tmp 6 rfl ?_
  simp -implicitDefEqProofs [go_sem]
  exact ⟨F4, h4, (Turn.of bel3).trans t4⟩
end
end Go.Proofs.Ytkljlgahdlgmpaa
