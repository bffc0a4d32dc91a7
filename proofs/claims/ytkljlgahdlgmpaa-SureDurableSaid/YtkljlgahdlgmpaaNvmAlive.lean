/- What the document fixes: alive answers true. -/
import Derived.Test.YtkljlgahdlgmpaaNvmActs
namespace Go.Proofs.Ytkljlgahdlgmpaa
open Go Go.RowKit

def dA0 : NM.Dv := NM.dev0 2
def dA1 : NM.Dv := (dA0.store 8 5#64).1
def dA2 : NM.Dv := dA1.crash []
def dA3 : NM.Dv := (dA2.store 8 6#64).1
def dA4 : NM.Dv := (dA3.flush 8).1
def dA5 : NM.Dv := dA4.fence.1
def dA6 : NM.Dv := dA5.crash [3#8]
theorem fA1 : (dA0.store 8 5#64).2 = 0 := by decide +kernel
theorem fA2 : dA1.may 0 = 2 := by decide +kernel
theorem fA3 : dA1.load 8 = (5#64, 0) := by decide +kernel
theorem fA4 : dA2.load 8 = (0#64, 0) := by decide +kernel
theorem fA5 : (dA2.store 8 6#64).2 = 0 := by decide +kernel
theorem fA6 : (dA3.flush 8).2 = 0 := by decide +kernel
theorem fA7 : dA4.fence.2 = 0 := by decide +kernel
theorem fA8 : dA6.load 8 = (6#64, 0) := by decide +kernel
theorem fA9 : dA6.size = 128 := by decide +kernel
theorem fA10 : dA6.steps = 4 := by decide +kernel
theorem fA12 : (dA6.store 4 1#64).2 = 4 := by decide +kernel
theorem sA : dA0.steps = 0 ∧ dA1.steps = 1 ∧ dA2.steps = 1 ∧ dA3.steps = 2 ∧ dA4.steps = 3 ∧ dA5.steps = 4 ∧ dA6.steps = 4 := by decide +kernel
theorem i64_lit (z : Int) (h : -9223372036854775808 ≤ z ∧ z ≤ 9223372036854775807) : I64 z := h

set_option maxRecDepth 20000 in
set_option maxHeartbeats 2000000 in
set_option linter.unusedSimpArgs false in
theorem alive_calls (w0 : World) : Ret Try.prog 13 #[] w0 fun v w' => v = .bool true ∧ Below w0.heap.size w0 w' := by
  obtain ⟨s0, s1, s2, s3, s4, s5, s6⟩ := sA
  have st : ∀ D : NM.Dv, (D = dA0 ∨ D = dA1 ∨ D = dA2 ∨ D = dA3 ∨ D = dA4 ∨ D = dA5 ∨ D = dA6) → D.steps < 1099511627776 := by
    rintro D (rfl | rfl | rfl | rfl | rfl | rfl | rfl) <;> omega
  have c0 := st dA0 (by simp)
  have c1 := st dA1 (by simp)
  have c2 := st dA2 (by simp)
  have c3 := st dA3 (by simp)
  have c4 := st dA4 (by simp)
  have c5 := st dA5 (by simp)
  have c6 := st dA6 (by simp)
  refine ret_of (args := []) _ Try.func13 rfl Try.ntmps13 (by simp) ?_
  simp -implicitDefEqProofs [go_sem]
  refine callE_of (newB 2 w0 (by unfold I64; omega)) ?_
  rintro v w1 ⟨b1, ⟨h, _⟩ | ⟨_, p, F1, rfl, h1, hF1⟩⟩
  · exact absurd ⟨by omega, by omega⟩ h
  have h1 : DevB w1 p F1 dA0 := h1
  have bel1 : Below w0.heap.size w0 w1 := b1
  simp -implicitDefEqProofs [go_sem]
  refine callE_of (storeB 8 5#64 w1 h1 (i64_lit 8 (by decide)) c0) ?_
  rintro v w2 ⟨rfl, F2, h2, t2⟩
  have h2 : DevB w2 p F2 dA1 := h2
  have T2 : Turn w1 F1 w2 F2 := t2
  simp -implicitDefEqProofs [go_sem, fA1, show uv 5#64 = 5 from rfl]
  refine callE_of (mayB 0 w2 h2 c1) ?_
  rintro v w3 ⟨rfl, rfl⟩
  simp -implicitDefEqProofs [go_sem, fA2]
  refine callE_of (loadB 8 w3 h2 (i64_lit 8 (by decide))) ?_
  rintro v w4 ⟨rfl, rfl⟩
  simp -implicitDefEqProofs [go_sem, fA3]
  refine callE_of (crashB none 0 [] w4 h2 ⟨.inl rfl, Nat.le_refl _, by decide, fun _ => rfl⟩ (fun h => absurd rfl h) c1) ?_
  rintro v w5 ⟨rfl, F5, h5, t5⟩
  have h5 : DevB w5 p F5 dA2 := h5
  have T5 := T2.trans t5
  simp -implicitDefEqProofs [go_sem, fA3]
  refine callE_of (loadB 8 w5 h5 (i64_lit 8 (by decide))) ?_
  rintro v w6 ⟨rfl, rfl⟩
  simp -implicitDefEqProofs [go_sem, fA3, fA4]
  refine callE_of (storeB 8 6#64 w6 h5 (i64_lit 8 (by decide)) c2) ?_
  rintro v w7 ⟨rfl, F7, h7, t7⟩
  have h7 : DevB w7 p F7 dA3 := h7
  have T7 := T5.trans t7
  simp -implicitDefEqProofs [go_sem, fA3, fA4, fA5]
  refine callE_of (flushB 8 w7 h7 (i64_lit 8 (by decide)) c3) ?_
  rintro v w8 ⟨rfl, F8, h8, t8⟩
  have h8 : DevB w8 p F8 dA4 := h8
  have T8 := T7.trans t8
  simp -implicitDefEqProofs [go_sem, fA3, fA4, fA6]
  refine callE_of (fenceB w8 h8 c4) ?_
  rintro v w9 ⟨rfl, F9, h9, t9⟩
  have h9 : DevB w9 p F9 dA5 := h9
  have T9 := T8.trans t9
  simp -implicitDefEqProofs [go_sem, fA3, fA4, fA7]
  have bel9 : Below w0.heap.size w0 w9 := bel1.trans (T9.below bel1.size (fun k hk => hF1 k hk))
  have hlt9 := h9.lt
  generalize hw10 : World.alloc w9 _ = w10 at *
  obtain ⟨hB10, b10, sz10⟩ := new_facts hw10
  have bel10 := bel9.trans (b10.mono bel9.size)
  replace h9 := h9.next b10
  have T10 : Turn w1 F1 w10 F9 := T9.trans (.of b10)
  have hin : SlIn .u8 w10 (some ⟨w9.heap.size, 0, none⟩) [3#8] 1 := ⟨slAt_blk hB10 (fun i hi => by
    have : i = 0 := by simp at hi; omega
    subst this; rfl), by simp, by decide, fun h => by cases h⟩
  refine callE_of (crashB _ 1 [3#8] w10 h9 hin (fun _ y hy hf => by
    obtain rfl : _ = y := Option.some.inj hy
    have := hlt9 _ hf
    simp at this) c5) ?_
  rintro v w11 ⟨rfl, F11, h11, t11⟩
  have h11 : DevB w11 p F11 dA6 := h11
  have T11 := T10.trans t11
  simp -implicitDefEqProofs [go_sem]
  refine callE_of (loadB 8 w11 h11 (i64_lit 8 (by decide))) ?_
  rintro v w12 ⟨rfl, rfl⟩
  simp -implicitDefEqProofs [go_sem, fA8, show uv 6#64 = 6 from rfl]
  refine callE_of (sizeB w12 h11) ?_
  rintro v w13 ⟨rfl, rfl⟩
  simp -implicitDefEqProofs [go_sem, fA8, fA9]
  refine callE_of (stepsB w13 h11) ?_
  rintro v w14 ⟨rfl, rfl⟩
  simp -implicitDefEqProofs [go_sem, fA8, s6]
  refine callE_of (imageB w14 h11) ?_
  rintro v w15 ⟨a, c, rfl, _, b15, _⟩
  have h15 := h11.next b15
  have T15 := T11.trans (.of b15)
  simp -implicitDefEqProofs [go_sem, fA9]
  refine callE_of (storeB 4 1#64 w15 h15 (i64_lit 4 (by decide)) c6) ?_
  rintro v w16 ⟨rfl, F16, h16, t16⟩
  have T16 := T15.trans t16
  simp -implicitDefEqProofs [go_sem, fA12, fA8]
  refine body_tmp 0 rfl ?_
  simp -implicitDefEqProofs [go_sem]
  exact bel1.trans (T16.below bel1.size hF1)
end Go.Proofs.Ytkljlgahdlgmpaa
