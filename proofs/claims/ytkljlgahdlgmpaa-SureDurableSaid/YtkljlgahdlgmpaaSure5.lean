/- What the document fixes of Put, PutAll, Get, Clear: alive answers true. -/
import Derived.Test.YtkljlgahdlgmpaaSure4
import Derived.Test.YtkljlgahdlgmpaaNvmAlive
import Derived.Test.YtkljlgahdlgmpaaNvmLaw4
namespace Go.Proofs.Ytkljlgahdlgmpaa
open Go Go.RowKit

section
set_option linter.unusedSimpArgs false
theorem store1N_calls (b0 b1 b2 : Nat) (w : World) (k0 : Blk w b0 #[.pointer none] 26) (k1 : Blk w b1 #[.int .i64 0] 3) (k2 : Blk w b2 #[.int .u64 0] 28) :
    Ret Try.prog 65 #[.pointer (some ⟨b0, 0, none⟩), .pointer (some ⟨b1, 0, none⟩), .pointer (some ⟨b2, 0, none⟩)] w fun v w' => v = .int .i64 1 ∧ w' = w := by
  refine ret_of (args := [_, _, _]) _ Try.func65 rfl Try.ntmps65 (by simp) ?_
  simp -implicitDefEqProofs [go_sem, k0.cell, k1.cell, k2.cell]
  refine callE_of (store_nb w (.inl rfl) 0 0) ?_
  rintro v w1 ⟨rfl, rfl⟩
  simp -implicitDefEqProofs [go_sem]
  refine body_tmp 3 rfl ?_
  simp -implicitDefEqProofs [go_sem]
theorem mkStoreN_calls (w0 : World) :
    Ret Try.prog 58 #[.pointer none, .int .i64 0, .int .u64 0] w0 fun v w' => Below w0.heap.size w0 w' ∧ ∃ b0 b1 b2, v = .func (.func 65) #[] #[.pointer (some ⟨b0, 0, none⟩), .pointer (some ⟨b1, 0, none⟩), .pointer (some ⟨b2, 0, none⟩)] ∧
      Blk w' b0 #[.pointer none] 26 ∧ Blk w' b1 #[.int .i64 0] 3 ∧ Blk w' b2 #[.int .u64 0] 28 := by
  have bel0 := Below.refl w0.heap.size w0
  refine ret_of (args := [_, _, _]) _ Try.func58 rfl Try.ntmps58 (by simp) ?_
  simp -implicitDefEqProofs [go_sem]
  generalize hw1 : World.alloc w0 _ = w1 at *
  obtain ⟨hB1, b1, sz1⟩ := new_facts hw1
  have bel1 := bel0.trans (b1.mono bel0.size)
  generalize hw2 : World.alloc w1 _ = w2 at *
  obtain ⟨hB2, b2, sz2⟩ := new_facts hw2
  have bel2 := bel1.trans (b2.mono bel1.size)
  replace hB1 := hB1.next b2
  generalize hw3 : World.alloc w2 _ = w3 at *
  obtain ⟨hB3, b3, sz3⟩ := new_facts hw3
  have bel3 := bel2.trans (b3.mono bel2.size)
  replace hB1 := hB1.next b3
  replace hB2 := hB2.next b3
  refine body_tmp 6 rfl ?_
  refine ⟨bel3, w0.heap.size, w0.heap.size + 1, w0.heap.size + 1 + 1, ?_, hB1, ?_, ?_⟩
  · simp -implicitDefEqProofs [go_sem]
  · rw [sz1] at hB2; exact hB2
  · rw [sz2, sz1] at hB3; exact hB3
theorem mkFlushN_calls (w0 : World) :
    Ret Try.prog 59 #[.pointer none, .int .i64 0] w0 fun v w' => Below w0.heap.size w0 w' ∧ ∃ x y, v = .func (.func 66) x y := by
  have bel0 := Below.refl w0.heap.size w0
  refine ret_of (args := [_, _]) _ Try.func59 rfl Try.ntmps59 (by simp) ?_
  simp -implicitDefEqProofs [go_sem]
  generalize hw1 : World.alloc w0 _ = w1 at *
  obtain ⟨hB1, b1, sz1⟩ := new_facts hw1
  have bel1 := bel0.trans (b1.mono bel0.size)
  generalize hw2 : World.alloc w1 _ = w2 at *
  obtain ⟨hB2, b2, sz2⟩ := new_facts hw2
  have bel2 := bel1.trans (b2.mono bel1.size)
  refine body_tmp 4 rfl ?_
  exact ⟨bel2, _, _, rfl⟩
theorem putN_calls (w0 : World) : Ret Try.prog 42 #[.pointer none, .int .i64 0, .int .u64 0] w0 fun v w' => v = .int .i64 1 ∧ Below w0.heap.size w0 w' := by
  have bel0 := Below.refl w0.heap.size w0
  refine ret_of (args := [_, _, _]) _ Try.func42 rfl Try.ntmps42 (by simp) ?_
  simp -implicitDefEqProofs [go_sem]
  refine callE_of (mkStoreN_calls w0) ?_
  rintro v1 w1 ⟨b1, c0, c1, c2, rfl, k0, k1, k2⟩
  have bel1 := bel0.trans (b1.mono bel0.size)
  simp -implicitDefEqProofs [go_sem]
  refine callE_of (mkFlushN_calls w1) ?_
  rintro v2 w2 ⟨b2, x, y, rfl⟩
  have bel2 := bel1.trans (b2.mono bel1.size)
  replace k0 := k0.next b2
  replace k1 := k1.next b2
  replace k2 := k2.next b2
  simp -implicitDefEqProofs [go_sem]
  generalize hw3 : World.alloc w2 _ = w3 at *
  obtain ⟨hB3, b3, sz3⟩ := new_facts hw3
  have bel3 := bel2.trans (b3.mono bel2.size)
  replace k0 := k0.next b3
  replace k1 := k1.next b3
  replace k2 := k2.next b3
  have hrun : Ret Try.prog 60 #[.slice (some ⟨w2.heap.size, 0, none⟩) 3 3] w3 fun v w' => v = .int .i64 1 ∧ w' = w3 := by
    refine ret_of (args := [_]) _ Try.func60 rfl Try.ntmps60 (by simp) ?_
    simp -implicitDefEqProofs [go_sem]
    refine wpE_rounds 1 ?_
    simp -implicitDefEqProofs [go_sem, hB3.cell]
    refine callE_of (store1N_calls c0 c1 c2 w3 k0 k1 k2) ?_
    rintro v w4 ⟨rfl, rfl⟩
    simp -implicitDefEqProofs [go_sem]
    refine body_tmp 2 rfl ?_
    simp -implicitDefEqProofs [go_sem]
  refine callE_of hrun ?_
  rintro v w4 ⟨rfl, rfl⟩
  simp -implicitDefEqProofs [go_sem]
  refine body_tmp 6 rfl ?_
  simp -implicitDefEqProofs [go_sem]
  exact bel3
theorem clear8_calls (p : Nat) (w0 : World) : Ret Try.prog 56 #[.pointer (some ⟨p, 0, none⟩), .int .i64 8, .int .i64 1] w0 fun v w' => v = .int .i64 2 ∧ w' = w0 := by
  refine ret_of (args := [_, _, _]) _ Try.func56 rfl Try.ntmps56 (by simp) ?_
  simp -implicitDefEqProofs [go_sem]
  refine body_tmp 6 rfl ?_
  simp -implicitDefEqProofs [go_sem]
end

def eA0 : NM.Dv := NM.dev0 4
def eA1 : NM.Dv := (runS eA0 (putS 8 5#64)).1
def eA2 : NM.Dv := (eA1.putAll 16 [1#64, 2#64]).1
def eA3 : NM.Dv := eA2.crash [1#8]
theorem gA1 : (runS eA0 (putS 8 5#64)).2 = 0 := by decide +kernel
theorem gA2 : (eA1.putAll 16 [1#64, 2#64]).2 = 0 := by decide +kernel
theorem gA3 : eA3.get 8 3 = ([5#64, 1#64, 2#64], 0) := by decide +kernel
theorem gA4 : (eA3.putAll 0 (List.replicate 8 0#64)).2 = 0 := by decide +kernel
theorem tA : eA0.steps = 0 ∧ eA1.steps = 3 ∧ eA2.steps = 7 ∧ eA3.steps = 7 := by decide +kernel

set_option maxRecDepth 20000 in
set_option maxHeartbeats 4000000 in
set_option linter.unusedSimpArgs false in
theorem alive4_calls (w0 : World) : Ret Try.prog 38 #[] w0 fun v w' => v = .bool true ∧ Below w0.heap.size w0 w' := by
  obtain ⟨s0, s1, s2, s3⟩ := tA
  refine ret_of (args := []) _ Try.func38 rfl Try.ntmps38 (by simp) ?_
  simp -implicitDefEqProofs [go_sem]
  refine callE_of (newB 4 w0 (i64_lit 4 (by decide))) ?_
  rintro v w1 ⟨b1, ⟨h, _⟩ | ⟨_, p, F1, rfl, h1, hF1⟩⟩
  · exact absurd ⟨by omega, by omega⟩ h
  have h1 : DevB w1 p F1 eA0 := h1
  have bel1 : Below w0.heap.size w0 w1 := b1
  simp -implicitDefEqProofs [go_sem]
  refine callE_of (put_calls' 8 5#64 w1 h1 (i64_lit 8 (by decide)) (by omega)) ?_
  rintro v w2 ⟨rfl, F2, h2, t2⟩
  have h2 : DevB w2 p F2 eA1 := h2
  simp -implicitDefEqProofs [go_sem, gA1]
  refine callE_of (stepsB w2 h2) ?_
  rintro v w3 ⟨rfl, rfl⟩
  simp -implicitDefEqProofs [go_sem, s1]
  have T2 : Turn w1 F1 w3 F2 := t2
  have bel3 : Below w0.heap.size w0 w3 := bel1.trans (T2.below bel1.size hF1)
  have hlt3 := h2.lt
  generalize hw4 : World.alloc w3 _ = w4 at *
  obtain ⟨hB4, b4, sz4⟩ := new_facts hw4
  have bel4 := bel3.trans (b4.mono bel3.size)
  replace h2 := h2.next b4
  have T4 : Turn w1 F1 w4 F2 := T2.trans (.of b4)
  have hin : SlIn .u64 w4 (some ⟨w3.heap.size, 0, none⟩) [1#64, 2#64] 2 := ⟨slAt_blk hB4 (fun i hi => by
    have : i = 0 ∨ i = 1 := by simp at hi; omega
    rcases this with rfl | rfl <;> rfl), by simp, by decide, fun h => by cases h⟩
  refine callE_of (putAll_calls 16 (some ⟨w3.heap.size, 0, none⟩) [1#64, 2#64] 2 w4 h2 hin (i64_lit 16 (by decide)) (by omega)) ?_
  rintro v w5 ⟨rfl, F5, h5, t5⟩
  have h5 : DevB w5 p F5 eA2 := h5
  have T5 := T4.trans t5
  simp -implicitDefEqProofs [go_sem, gA2]
  refine callE_of (stepsB w5 h5) ?_
  rintro v w6 ⟨rfl, rfl⟩
  have bel6 : Below w0.heap.size w0 w6 := bel1.trans (T5.below bel1.size hF1)
  have hlt6 := h5.lt
  simp -implicitDefEqProofs [go_sem, s2]
  generalize hw7 : World.alloc w6 _ = w7 at *
  obtain ⟨hB7, b7, sz7⟩ := new_facts hw7
  have bel7 := bel6.trans (b7.mono bel6.size)
  replace h5 := h5.next b7
  have T7 : Turn w1 F1 w7 F5 := T5.trans (.of b7)
  have hin2 : SlIn .u8 w7 (some ⟨w6.heap.size, 0, none⟩) [1#8] 1 := ⟨slAt_blk hB7 (fun i hi => by
    have : i = 0 := by simp at hi; omega
    subst this; rfl), by simp, by decide, fun h => by cases h⟩
  refine callE_of (crashB _ 1 [1#8] w7 h5 hin2 (fun _ y hy hf => by
    obtain rfl : _ = y := Option.some.inj hy
    have := hlt6 _ hf
    simp at this) (by omega)) ?_
  rintro v w8 ⟨rfl, F8, h8, t8⟩
  have h8 : DevB w8 p F8 eA3 := h8
  have T8 := T7.trans t8
  simp -implicitDefEqProofs [go_sem]
  refine callE_of (get_calls' 8 3 w8 h8 (i64_lit 8 (by decide)) (i64_lit 3 (by decide))) ?_
  rintro v w9 ⟨b9, a, c, rfl, in9, n9⟩
  rw [gA3] at in9 ⊢
  have h9 := h8.next b9
  have T9 := T8.trans (.of b9)
  obtain ⟨bb, oo, rfl, hc0⟩ := in9.at_.cell (i := 0) (by simp)
  obtain ⟨_, _, e1, hc1⟩ := in9.at_.cell (i := 1) (by simp)
  obtain ⟨_, _, e2, hc2⟩ := in9.at_.cell (i := 2) (by simp)
  simp only [Option.some.injEq, Addr.mk.injEq, and_true] at e1 e2
  obtain ⟨rfl, rfl⟩ := e1
  obtain ⟨rfl, rfl⟩ := e2
  have hc0 : w9.cell? ⟨bb, oo, none⟩ = some (.int .u64 5) := hc0
  have hc1 : w9.cell? ⟨bb, oo + 1, none⟩ = some (.int .u64 1) := hc1
  have hc2 : w9.cell? ⟨bb, oo + 2, none⟩ = some (.int .u64 2) := hc2
  simp -implicitDefEqProofs [go_sem, hc0, hc1, hc2]
  refine callE_of (putN_calls w9) ?_
  rintro v w10 ⟨rfl, b10⟩
  have h10 := h9.next b10
  have T10 := T9.trans (.of b10)
  simp -implicitDefEqProofs [go_sem]
  refine callE_of (clear_calls 0 w10 h10 (.inl rfl) (by omega)) ?_
  rintro v w11 ⟨rfl, F11, D11, h11, t11⟩
  rw [if_pos rfl, gA4]
  simp -implicitDefEqProofs [go_sem]
  refine callE_of (clear8_calls p w11) ?_
  rintro v w12 ⟨rfl, rfl⟩
  simp -implicitDefEqProofs [go_sem]
  refine body_tmp 0 rfl ?_
  simp -implicitDefEqProofs [go_sem]
  exact bel1.trans ((T10.trans t11).below bel1.size hF1)
end Go.Proofs.Ytkljlgahdlgmpaa
