/- The laws of word: alive, WordBits, WordLow. -/
import Derived.Test.YtcaekgkogiggoaaDoorWordMem
namespace Go.Proofs.YtcaekgkogiggoaaDoor
open Go Go.RowKit

theorem slIn_rep {w : World} {b m : Nat} {e : TypeId} (h : Blk w b (Array.replicate m (.int .u8 0)) e) (hm : m ≤ 9223372036854775807) : SlIn .u8 w (some ⟨b, 0, none⟩) (List.replicate m 0#8) m := by
  refine ⟨slAt_blk h fun i hi => ?_, by simp, hm, fun h => by cases h⟩
  simp at hi
  simp [hi, uv]

set_option maxHeartbeats 1000000 in
set_option linter.unusedSimpArgs false in
theorem alive_calls (w0 : World) (hT : Tabs w0) : Ret Tryd.prog 13 #[] w0 fun v w' => v = .bool true ∧ Below w0.heap.size w0 w' := by
  have bel0 := Below.refl w0.heap.size w0
  have hmk := run_make_n (P := Tryd.prog) Tryd.underlying30 info_u8 rfl .i64 .i64 16 (by omega) (by omega)
  rw [show (((16 : Nat)) : Int) = 16 from rfl] at hmk
  have hF := fun w => field_calls 4660#64 4 8 w
  rw [show WM.fieldM 4660#64 4 8 = 35#64 by decide +kernel, show uv 4660#64 = 4660 from rfl, show uv 35#64 = 35 from rfl] at hF
  have hW := fun w => with_calls 255#64 4 4 2#64 w
  rw [show WM.withM 255#64 4 4 2#64 = 47#64 by decide +kernel, show uv 255#64 = 255 from rfl, show uv 47#64 = 47 from rfl, show uv 2#64 = 2 from rfl] at hW
  have hL := fun w h => low_calls 11#64 4 w h
  rw [show WM.lowOff 11#64 4 = 2 by decide +kernel, show uv 11#64 = 11 from rfl] at hL
  have hL2 := fun w h => low_calls 15#64 4 w h
  rw [show WM.lowOff 15#64 4 = -1 by decide +kernel, show uv 15#64 = 15 from rfl] at hL2
  refine ret_of (args := []) _ Tryd.func13 rfl Tryd.ntmps13 (by simp) ?_
  simp -implicitDefEqProofs [go_sem, hmk]
  generalize hw1 : World.alloc w0 _ = w1 at *
  obtain ⟨hB1, b1, sz1⟩ := new_facts hw1
  have bel1 := b1
  replace hT := hT.next b1
  have hP := put_calls (some ⟨w0.heap.size, 0, none⟩) (List.replicate 16 0#8) 16 16 8 300#64 w1 (by simp) (by decide) (slIn_rep hB1 (by decide))
  rw [show WM.hasB 16 8 = true by decide +kernel, show uv 300#64 = 300 from rfl] at hP
  refine callE_of hP ?_
  rintro v w2 ⟨a2, c2, rfl, hin2, b2⟩
  have bel2 := bel1.trans (b2.mono bel1.size)
  replace hT := hT.next b2
  have hG := get_calls a2 _ 16 c2 8 w2 (by rw [putB_length]; simp) (by decide) hin2.at_
  rw [show (if WM.hasB 16 8 = true then WM.getM (putB (List.replicate 16 0#8) 8 300#64) (Int.toNat 8) else 0#64) = 300#64 by decide +kernel, show WM.hasB 16 8 = true by decide +kernel, show uv 300#64 = 300 from rfl] at hG
  have hG2 := get_calls a2 _ 16 c2 4 w2 (by rw [putB_length]; simp) (by decide) hin2.at_
  rw [show (if WM.hasB 16 4 = true then WM.getM (putB (List.replicate 16 0#8) 8 300#64) (Int.toNat 4) else 0#64) = 0#64 by decide +kernel, show WM.hasB 16 4 = false by decide +kernel, show uv 0#64 = 0 from rfl] at hG2
  simp -implicitDefEqProofs [go_sem]
  refine callE_of hG ?_
  rintro v w3 ⟨rfl, rfl⟩
  simp -implicitDefEqProofs [go_sem]
  refine callE_of hG2 ?_
  rintro v w4 ⟨rfl, rfl⟩
  simp -implicitDefEqProofs [go_sem]
  refine callE_of (hF w4) ?_
  rintro v w5 ⟨rfl, b5⟩
  have bel5 := bel2.trans (b5.mono bel2.size)
  replace hT := hT.next b5
  simp -implicitDefEqProofs [go_sem]
  refine callE_of (hW w5) ?_
  rintro v w6 ⟨rfl, b6⟩
  have bel6 := bel5.trans (b6.mono bel5.size)
  replace hT := hT.next b6
  simp -implicitDefEqProofs [go_sem]
  refine callE_of (hL w6 hT) ?_
  rintro v w7 ⟨rfl, b7⟩
  have bel7 := bel6.trans (b7.mono bel6.size)
  replace hT := hT.next b7
  simp -implicitDefEqProofs [go_sem]
  refine callE_of (hL2 w7 hT) ?_
  rintro v w8 ⟨rfl, b8⟩
  have bel8 := bel7.trans (b8.mono bel7.size)
  simp -implicitDefEqProofs [go_sem]
  refine body_tmp 0 rfl ?_
  simp -implicitDefEqProofs [go_sem]
  exact bel8

set_option maxHeartbeats 1000000 in
set_option linter.unusedSimpArgs false in
theorem wordBits_walk (n x : BitVec 64) (p q r : Int) (hp : I64 p) (hq : I64 q) (hr : I64 r) (w0 : World) (hT : Tabs w0) :
    Ret Tryd.prog 3 #[.int .u64 (uv n), .int .u64 (uv x), .agg #[.int .i64 p, .int .i64 q, .int .i64 r]] w0 fun v w' => v = .bool true ∧ Below w0.heap.size w0 w' := by
  have bel0 := Below.refl w0.heap.size w0
  refine ret_of (args := [_, _, _]) _ Tryd.func3 rfl Tryd.ntmps3 (by simp) ?_
  simp -implicitDefEqProofs [go_sem]
  generalize hw1 : World.alloc w0 _ = w1 at *
  obtain ⟨hB1, b1, sz1⟩ := new_facts hw1
  have bel1 := bel0.trans (b1.mono bel0.size)
  replace hT := hT.next b1
  refine callE_of (alive_calls w1 hT) ?_
  rintro v w2 ⟨rfl, b2⟩
  have bel2 := bel1.trans (b2.mono bel1.size)
  replace hT := hT.next b2
  replace hB1 := hB1.next b2
  simp -implicitDefEqProofs [go_sem]
  obtain ⟨S, hS⟩ : ∃ S : World → Prop, S = fun w' => Below w2.heap.size w2 w' := ⟨_, rfl⟩
  refine drawE_quiet S mixed (by decide +kernel) (by subst_vars; first | exact (Below.refl _ _).drew | assumption) (fun hsome => ?_)
  have hb : ∀ w', S w' → Below w2.heap.size w2 w' := fun w' h => by rw [hS] at h; exact h
  have hto : ∀ w', S w' → ∀ w'', Below w'.heap.size w' w'' → S w'' := fun w' h w'' h2 => by rw [hS] at h ⊢; exact h.trans (h2.mono h.size)
  have k1 := fun w' h => (hB1.next (hb w' h)).cell
  simp -implicitDefEqProofs +contextual [go_sem, hsome, k1]
  refine onQuiet_call _ (fun w' hw => (field_calls n p q w').mono fun v w'' h => ⟨h.1, hto _ hw _ h.2⟩) ?_
  simp -implicitDefEqProofs +contextual [go_sem, hsome, k1]
  refine onQuiet_call _ (fun w' hw => (refField_calls n p q w' hp hq).mono fun v w'' h => ⟨h.1, hto _ hw _ h.2⟩) ?_
  simp -implicitDefEqProofs +contextual [go_sem, hsome, k1]
  refine onQuiet_call _ (fun w' hw => (with_calls n p q x w').mono fun v w'' h => ⟨h.1, hto _ hw _ h.2⟩) ?_
  simp -implicitDefEqProofs +contextual [go_sem, hsome, k1]
  refine onQuiet_call _ (fun w' hw => (refWith_calls n p q x w' hp hq).mono fun v w'' h => ⟨h.1, hto _ hw _ h.2⟩) ?_
  simp -implicitDefEqProofs +contextual [go_sem, hsome, k1]
  refine onQuiet_call _ (fun w' hw => (low_calls n r w' (hT.next (hb w' hw))).mono fun v w'' h => ⟨h.1, hto _ hw _ h.2⟩) ?_
  simp -implicitDefEqProofs +contextual [go_sem, hsome, k1]
  refine onQuiet_call _ (fun w' hw => (refLow_calls n r w' hr).mono fun v w'' h => ⟨h.1, hto _ hw _ h.2⟩) ?_
  simp -implicitDefEqProofs +contextual [go_sem, hsome, k1]
  unfold endE
  intro w9 h9
  simp -implicitDefEqProofs [go_sem]
  refine body_tmp 6 rfl ?_
  simp -implicitDefEqProofs [go_sem]
  exact bel2.trans ((hb _ h9).mono bel2.size)
end Go.Proofs.YtcaekgkogiggoaaDoor
