/- alive of the laws of rec. -/
import Derived.Test.YtgdjnginljamoaaRecRDec
namespace Go.Proofs.Ytgdjnginljamoaa
open Go Go.RowKit

def abM : List (BitVec 64) := [0x20003#64, 5#64, 0#64, 0x6261#64, 0#64, 0#64, 0#64, 0#64]
def goM : List (BitVec 64) := [0x103#64, 9#64, 64#64, 0#64, 0#64, 0#64, 0#64, 0#64]
theorem ab_enc : encM 5#64 0#64 false ⟨#[97, 98]⟩ = abM := by decide +kernel
theorem ab_right : rightB 5#64 false ⟨#[97, 98]⟩ = true := by decide +kernel
theorem go_ok : okM goM = true := by decide +kernel
theorem go_dec : decM goM = recV 9#64 64#64 true ⟨#[]⟩ := by
  rw [decM, if_pos go_ok]
  have h1 : goM.getD 1 0#64 = 9#64 := by decide +kernel
  have h2 : goM.getD 2 0#64 = 64#64 := by decide +kernel
  have h3 : goneM goM = true := by decide +kernel
  have h4 : textM goM (sizeM goM) = ⟨#[]⟩ := by decide +kernel
  rw [h1, h2, h3, h4]
theorem go_right : rightB 9#64 true ⟨#[]⟩ = true := by decide +kernel
theorem no_right : rightB 0#64 false ⟨#[]⟩ = false := by decide +kernel
theorem slIn_new {w : World} {C : Array Value} {e : TypeId} (l : List (BitVec 64)) (n : Nat) (hn : l.length = n) (h63 : n ≤ 9223372036854775807) (hC : C = cw l) : SlIn .u64 (w.alloc (.cells C e)) (some ⟨w.heap.size, 0, none⟩) l n := by
  subst hC
  refine ⟨slAt_blk (Blk.new _ _ _) fun i hi => ?_, by omega, h63, by simp⟩
  rw [cw_get _ _ hi]; simp [hi]

set_option maxHeartbeats 1000000 in
set_option linter.unusedSimpArgs false in
theorem alive_calls (w : World) : Ret Try.prog 8 #[] w fun v w' => v = .bool true ∧ Below w.heap.size w w' := by
  have hE := encode_calls 5#64 0#64 false ⟨#[97, 98]⟩ w
  unfold recV at hE
  rw [ab_enc, ab_right, show uv 5#64 = 5 from rfl, show uv 0#64 = 0 from rfl] at hE
  refine ret_of (args := []) _ Try.func8 rfl Try.ntmps8 (by simp) ?_
  simp -implicitDefEqProofs [go_sem]
  refine callE_of hE ?_
  rintro v w1 ⟨a1, c1, rfl, hin1, bel1⟩
  simp -implicitDefEqProofs [go_sem]
  have hin2 : SlIn .u64 (w1.alloc (.cells #[.int .u64 259, .int .u64 9, .int .u64 64, .int .u64 0, .int .u64 0, .int .u64 0, .int .u64 0, .int .u64 0] 22)) (some ⟨w1.heap.size, 0, none⟩) goM 8 := slIn_new goM 8 rfl (by decide) (by rfl)
  have bel2 : Below w.heap.size w (w1.alloc (.cells #[.int .u64 259, .int .u64 9, .int .u64 64, .int .u64 0, .int .u64 0, .int .u64 0, .int .u64 0, .int .u64 0] 22)) := bel1.alloc bel1.size _
  have hin1' := hin1.below ((Below.refl w1.heap.size w1).alloc (Nat.le_refl _) (.cells #[.int .u64 259, .int .u64 9, .int .u64 64, .int .u64 0, .int .u64 0, .int .u64 0, .int .u64 0, .int .u64 0] 22))
  have hD := decode_calls (some ⟨w1.heap.size, 0, none⟩) goM 8 8 _ rfl hin2
  rw [go_dec, go_ok] at hD
  unfold recV at hD
  rw [show uv 9#64 = 9 from rfl, show uv 64#64 = 64 from rfl] at hD
  refine callE_of hD ?_
  rintro v w3 ⟨rfl, bel3⟩
  have bel3' := bel2.trans (bel3.mono bel2.size)
  have hin3 := hin1'.below bel3

  simp -implicitDefEqProofs [go_sem]
  have hB := (Blk.new w3 #[.int .u64 9, .int .u64 64, .bool true, .string ⟨#[]⟩] 29).alloc (.cells #[.int .u64 131075, .int .u64 5, .int .u64 0, .int .u64 25185, .int .u64 0, .int .u64 0, .int .u64 0, .int .u64 0] 22)
  have bel4 : Below w3.heap.size w3 ((w3.alloc (.cells #[.int .u64 9, .int .u64 64, .bool true, .string ⟨#[]⟩] 29)).alloc (.cells #[.int .u64 131075, .int .u64 5, .int .u64 0, .int .u64 25185, .int .u64 0, .int .u64 0, .int .u64 0, .int .u64 0] 22)) := ((Below.refl _ _).alloc (Nat.le_refl _) _).alloc (by simp) _
  have hin4 : SlIn .u64 ((w3.alloc (.cells #[.int .u64 9, .int .u64 64, .bool true, .string ⟨#[]⟩] 29)).alloc (.cells #[.int .u64 131075, .int .u64 5, .int .u64 0, .int .u64 25185, .int .u64 0, .int .u64 0, .int .u64 0, .int .u64 0] 22)) (some ⟨w3.heap.size + 1, 0, none⟩) abM 8 := by
    have := slIn_new (w := w3.alloc (.cells #[.int .u64 9, .int .u64 64, .bool true, .string ⟨#[]⟩] 29)) (C := #[.int .u64 131075, .int .u64 5, .int .u64 0, .int .u64 25185, .int .u64 0, .int .u64 0, .int .u64 0, .int .u64 0]) (e := 22) abM 8 rfl (by decide) (by rfl)
    rw [show (w3.alloc (.cells #[.int .u64 9, .int .u64 64, .bool true, .string ⟨#[]⟩] 29)).heap.size = w3.heap.size + 1 by simp] at this
    exact this
  refine callE_of (sameWords_calls _ _ abM abM _ 8 c1 8 _ rfl rfl (by decide) (hin3.at_.below bel4) hin4.at_) ?_
  rintro v w5 ⟨rfl, bel5⟩
  have bel5' := bel4.trans (bel5.mono bel4.size)
  have hB5 := hB.below bel5 hB.lt
  have g0 := hB5.cell 0
  have g1 := hB5.cell 1
  have g2 := hB5.cell 2
  have g3 := hB5.cell 3
  simp at g0 g1 g2 g3
  simp -implicitDefEqProofs [go_sem, g0, g1, g2, g3]
  have hr := fun w => right_calls 9#64 64#64 true ⟨#[]⟩ w
  have hr0 := fun w => right_calls 0#64 0#64 false ⟨#[]⟩ w
  unfold recV at hr hr0
  rw [go_right, show uv 9#64 = 9 from rfl, show uv 64#64 = 64 from rfl] at hr
  rw [no_right, show uv 0#64 = 0 from rfl] at hr0
  refine callE_of (hr _) ?_
  rintro v w6 ⟨rfl, bel6⟩
  simp -implicitDefEqProofs [go_sem]
  refine callE_of (hr0 _) ?_
  rintro v w7 ⟨rfl, bel7⟩
  simp -implicitDefEqProofs [go_sem]
  refine body_tmp 0 rfl ?_
  simp -implicitDefEqProofs [go_sem]
  have b1 := bel3'.trans (bel5'.mono bel3'.size)
  have b2 := b1.trans (bel6.mono b1.size)
  exact b2.trans (bel7.mono b2.size)
end Go.Proofs.Ytgdjnginljamoaa
