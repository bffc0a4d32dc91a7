/- The laws of rec: their walks. -/
import Derived.Test.YtgdjnginljamoaaRecAlive
namespace Go.Proofs.Ytgdjnginljamoaa
open Go Go.RowKit

theorem w0_at (st nx : BitVec 64) (gone : Bool) (s : ByteArray) (hs : s.size ≤ 40) : sizeM (wsOf st nx gone s) = s.size ∧ goneM (wsOf st nx gone s) = gone := by
  obtain ⟨h1, h2, _⟩ := RM.w0_facts s.size hs gone
  have e : (wsOf st nx gone s).getD 0 0#64 = RM.w0 s.size gone := rfl
  refine ⟨?_, ?_⟩
  · unfold sizeM; rw [e, h1]; simp; omega
  · unfold goneM; rw [e, h2]
theorem byte_ws (st nx : BitVec 64) (gone : Bool) (s : ByteArray) (i : Nat) (hi : i < 40) : byteM (wsOf st nx gone s) i = if i < s.size then tx s i else 0#8 := by
  have e : (wsOf st nx gone s).getD (3 + i / 8) 0#64 = RM.tw (tx s) s.size (i / 8) := by
    have : i / 8 = 0 ∨ i / 8 = 1 ∨ i / 8 = 2 ∨ i / 8 = 3 ∨ i / 8 = 4 := by omega
    rcases this with h | h | h | h | h <;> rw [h] <;> rfl
  unfold byteM; rw [e, RM.tw_byte]
theorem text_ws (st nx : BitVec 64) (gone : Bool) (s : ByteArray) (hs : s.size ≤ 40) : textM (wsOf st nx gone s) s.size = s := by
  have h : ∀ i (hi : i < s.size), UInt8.ofBitVec (byteM (wsOf st nx gone s) i) = s.data[i] := fun i hi => by
    rw [byte_ws _ _ _ _ _ (by omega), if_pos hi, tx_at _ _ hi]
  unfold textM
  cases s with
  | mk d =>
    congr 1
    apply Array.ext
    · simp; rfl
    · intro i h1 h2
      have := h i h2
      simpa using this
theorem right_size {st : BitVec 64} {gone : Bool} {s : ByteArray} (h : rightB st gone s = true) : s.size ≤ 40 := by simp [rightB] at h; omega
/-- A version comes back from its words. -/
theorem enc_back {st nx : BitVec 64} {gone : Bool} {s : ByteArray} (h : rightB st gone s = true) : okM (encM st nx gone s) = true ∧ decM (encM st nx gone s) = recV st nx gone s := by
  have hs := right_size h
  have e : encM st nx gone s = wsOf st nx gone s := by rw [encM, if_pos h]
  obtain ⟨h1, h2⟩ := w0_at st nx gone s hs
  have h3 := text_ws st nx gone s hs
  have g1 : (wsOf st nx gone s).getD 1 0#64 = st := rfl
  have g2 : (wsOf st nx gone s).getD 2 0#64 = nx := rfl
  have hok : okM (encM st nx gone s) = true := by
    unfold okM
    rw [e, h1, h2, g1, g2, h3, e]
    have : (wsOf st nx gone s).length = 8 := rfl
    simp [this, hs]
  refine ⟨hok, ?_⟩
  rw [decM, if_pos hok, e, h1, h2, g1, g2, h3]
theorem enc_inj {st nx st' nx' : BitVec 64} {gone gone' : Bool} {s s' : ByteArray} (h : rightB st gone s = true) (h' : rightB st' gone' s' = true) (he : encM st nx gone s = encM st' nx' gone' s') : st = st' ∧ nx = nx' ∧ gone = gone' ∧ s = s' := by
  have h1 := (enc_back (nx := nx) h).2
  rw [he, (enc_back h').2] at h1
  simp only [recV, Value.agg.injEq, Array.mk.injEq, List.cons.injEq, Value.int.injEq, Value.bool.injEq, Value.string.injEq, true_and, and_true] at h1
  exact ⟨(uv_inj h1.1).symm, (uv_inj h1.2.1).symm, h1.2.2.1.symm, h1.2.2.2.symm⟩
theorem dec_form (l : List (BitVec 64)) : ∃ y1 y2 y3 y4, decM l = recV y1 y2 y3 y4 ∧ (okM l = true → rightB y1 y3 y4 = true ∧ encM y1 y2 y3 y4 = l) ∧ (okM l = false → y1 = 0#64 ∧ y2 = 0#64 ∧ y3 = false ∧ y4 = ⟨#[]⟩) := by
  by_cases h : okM l = true
  · refine ⟨_, _, _, _, by rw [decM, if_pos h], fun _ => ?_, fun h' => by rw [h] at h'; cases h'⟩
    simp only [okM, Bool.and_eq_true, decide_eq_true_eq] at h
    refine ⟨?_, h.2⟩
    have h1 := h.1.1
    rw [← h.2] at h1
    by_cases hr : rightB (l.getD 1 0#64) (goneM l) (textM l (sizeM l)) = true
    · exact hr
    · rw [encM, if_neg hr] at h1; simp at h1
  · exact ⟨0#64, 0#64, false, ⟨#[]⟩, by rw [decM, if_neg h]; rfl, fun h' => absurd h' h, fun _ => ⟨rfl, rfl, rfl, rfl⟩⟩

set_option maxHeartbeats 1000000 in
set_option linter.unusedSimpArgs false in
theorem recTells_walk (st nx : BitVec 64) (gone : Bool) (s : ByteArray) (a : Option Addr) (l : List (BitVec 64)) (cap : Nat) (w0 : World) (hin : SlIn .u64 w0 a l cap) :
    Ret Try.prog 3 #[recV st nx gone s, .slice a l.length cap] w0 fun v w' => v = .bool true ∧ Below w0.heap.size w0 w' := by
  have hE := encode_calls st nx gone s
  have hE' := refEncode_calls st nx gone s
  have hR := right_calls st nx gone s
  have hR' := refRight_calls st nx gone s
  have bel0 := Below.refl w0.heap.size w0
  unfold recV at hE hE' hR hR' ⊢
  refine ret_of (args := [_, _]) _ Try.func3 rfl Try.ntmps3 (by simp) ?_
  simp -implicitDefEqProofs [go_sem]
  generalize hw1 : World.alloc w0 _ = w1 at *
  obtain ⟨hB1, b1, sz1⟩ := new_facts hw1
  have bel1 := bel0.trans (b1.mono bel0.size)
  replace hin := hin.next b1
  refine callE_of (alive_calls w1) ?_
  rintro v w2 ⟨rfl, b2⟩
  have bel2 := bel1.trans (b2.mono bel1.size)
  replace hin := hin.next b2
  replace hB1 := hB1.next b2
  by_cases hs : (200 : Int) < s.size
  · simp -implicitDefEqProofs [go_sem, hB1.cell, hs]
    refine body_tmp 4 rfl ?_
    simp -implicitDefEqProofs [go_sem]
    exact bel2
  by_cases hl : (200 : Int) < l.length
  · simp -implicitDefEqProofs [go_sem, hB1.cell, hs, hl]
    refine body_tmp 4 rfl ?_
    simp -implicitDefEqProofs [go_sem]
    exact bel2
  simp -implicitDefEqProofs [go_sem, hB1.cell, hs, hl]
  refine callE_of (hE _) ?_
  rintro v w3 ⟨a3, c3, rfl, hin3, b3⟩
  have bel3 := bel2.trans (b3.mono bel2.size)
  replace hin := hin.next b3
  replace hB1 := hB1.next b3
  simp -implicitDefEqProofs [go_sem, hB1.cell]
  refine callE_of (hE' _) ?_
  rintro v w4 ⟨a4, c4, rfl, hin4, b4⟩
  have bel4 := bel3.trans (b4.mono bel3.size)
  replace hin := hin.next b4
  replace hB1 := hB1.next b4
  replace hin3 := hin3.next b4
  simp -implicitDefEqProofs [go_sem]
  refine callE_of (decode_calls a l _ cap w4 rfl hin) ?_
  rintro v w5 ⟨rfl, b5⟩
  have bel5 := bel4.trans (b5.mono bel4.size)
  replace hin := hin.next b5
  replace hB1 := hB1.next b5
  replace hin3 := hin3.next b5
  replace hin4 := hin4.next b5
  obtain ⟨y1, y2, y3, y4, hy, _, _⟩ := dec_form l
  have hD := refDecode_calls a l l.length cap
  rw [hy] at hD ⊢
  unfold recV at hD ⊢
  simp -implicitDefEqProofs [go_sem, hB1.cell]
  generalize hw6 : World.alloc w5 _ = w6 at *
  obtain ⟨hB6, b6, sz6⟩ := new_facts hw6
  have bel6 := bel5.trans (b6.mono bel5.size)
  replace hin := hin.next b6
  replace hB1 := hB1.next b6
  replace hin3 := hin3.next b6
  replace hin4 := hin4.next b6
  refine callE_of (hD w6 rfl hin) ?_
  rintro v w7 ⟨rfl, b7⟩
  have bel7 := bel6.trans (b7.mono bel6.size)
  replace hin := hin.next b7
  replace hB1 := hB1.next b7
  replace hin3 := hin3.next b7
  replace hin4 := hin4.next b7
  replace hB6 := hB6.next b7
  simp -implicitDefEqProofs [go_sem]
  generalize hw8 : World.alloc w7 _ = w8 at *
  obtain ⟨hB8, b8, sz8⟩ := new_facts hw8
  have bel8 := bel7.trans (b8.mono bel7.size)
  replace hin := hin.next b8
  replace hB1 := hB1.next b8
  replace hin3 := hin3.next b8
  replace hin4 := hin4.next b8
  replace hB6 := hB6.next b8
  obtain ⟨S, hS⟩ : ∃ S : World → Prop, S = fun w' => Below w8.heap.size w8 w' := ⟨_, rfl⟩
  refine drawE_quiet S mixed (by decide +kernel) (by subst_vars; first | exact (Below.refl _ _).drew | assumption) (fun hsome => ?_)
  have hb : ∀ w', S w' → Below w8.heap.size w8 w' := fun w' h => by rw [hS] at h; exact h
  have hto : ∀ w', S w' → ∀ w'', Below w'.heap.size w' w'' → S w'' := fun w' h w'' h2 => by rw [hS] at h ⊢; exact h.trans (h2.mono h.size)
  have k1 := fun w' h => (hB1.next (hb w' h)).cell
  have k6 := fun w' h => (hB6.next (hb w' h)).cell
  have k8 := fun w' h => (hB8.next (hb w' h)).cell
  simp -implicitDefEqProofs +contextual [go_sem, hsome, k1]
  refine onQuiet_call _ (fun w' hw => (hR w').mono fun v w'' h => ⟨h.1, hto _ hw _ h.2⟩) ?_
  simp -implicitDefEqProofs +contextual [go_sem, hsome, k1]
  refine onQuiet_call _ (fun w' hw => (hR' w').mono fun v w'' h => ⟨h.1, hto _ hw _ h.2⟩) ?_
  simp -implicitDefEqProofs +contextual [go_sem, hsome, k1]
  refine onQuiet_call _ (fun w' hw => (sameWords_calls a3 a4 _ _ _ _ c3 c4 w' rfl rfl (by have := hin3.le; have := hin3.max; omega) (hin3.next (hb w' hw)).at_ (hin4.next (hb w' hw)).at_).mono fun v w'' h => ⟨h.1, hto _ hw _ h.2⟩) ?_
  simp -implicitDefEqProofs +contextual [go_sem, hsome, k1, k6, k8]
  unfold endE
  intro w9 h9
  simp -implicitDefEqProofs [go_sem]
  refine body_tmp 4 rfl ?_
  simp -implicitDefEqProofs [go_sem]
  exact bel8.trans ((hb _ h9).mono bel8.size)

set_option maxHeartbeats 1000000 in
set_option linter.unusedSimpArgs false in
theorem recNext_walk (st nx : BitVec 64) (gone : Bool) (s : ByteArray) (next : BitVec 64) (w0 : World) :
    Ret Try.prog 5 #[recV st nx gone s, .int .u64 (uv next)] w0 fun v w' => v = .bool true ∧ Below w0.heap.size w0 w' := by
  have hE := encode_calls st nx gone s
  have hE' := encode_calls st next gone s
  have bel0 := Below.refl w0.heap.size w0
  unfold recV at hE hE' ⊢
  refine ret_of (args := [_, _]) _ Try.func5 rfl Try.ntmps5 (by simp) ?_
  simp -implicitDefEqProofs [go_sem]
  generalize hw1 : World.alloc w0 _ = w1 at *
  obtain ⟨hB1, b1, sz1⟩ := new_facts hw1
  have bel1 := bel0.trans (b1.mono bel0.size)
  refine callE_of (alive_calls w1) ?_
  rintro v w2 ⟨rfl, b2⟩
  have bel2 := bel1.trans (b2.mono bel1.size)
  replace hB1 := hB1.next b2
  by_cases hs : (200 : Int) < s.size
  · simp -implicitDefEqProofs [go_sem, hB1.cell, hs]
    refine body_tmp 4 rfl ?_
    simp -implicitDefEqProofs [go_sem]
    exact bel2
  simp -implicitDefEqProofs [go_sem, hB1.cell, hs]
  refine callE_of (hE _) ?_
  rintro v w3 ⟨a3, c3, rfl, hin3, b3⟩
  have bel3 := bel2.trans (b3.mono bel2.size)
  replace hB1 := hB1.next b3
  simp -implicitDefEqProofs [go_sem, hB1.cell]
  generalize hw4 : World.alloc w3 _ = w4 at *
  obtain ⟨hB4, b4, sz4⟩ := new_facts hw4
  have bel4 := bel3.trans (b4.mono bel3.size)
  replace hB1 := hB1.next b4
  replace hin3 := hin3.next b4
  refine callE_of (hE' _) ?_
  rintro v w5 ⟨a5, c5, rfl, hin5, b5⟩
  have bel5 := bel4.trans (b5.mono bel4.size)
  replace hin3 := hin3.next b5
  cases hr : rightB st gone s
  · simp -implicitDefEqProofs [go_sem, encM, hr]
    refine wpE_rounds 1 ?_
    simp -implicitDefEqProofs [go_sem]
    refine body_tmp 4 rfl ?_
    simp -implicitDefEqProofs [go_sem]
    exact bel5
  · have e1 : encM st nx gone s = wsOf st nx gone s := by rw [encM, if_pos hr]
    have e2 : encM st next gone s = wsOf st next gone s := by rw [encM, if_pos hr]
    rw [e1] at hin3
    rw [e2] at hin5
    rw [e1, e2]
    have l1 : (wsOf st nx gone s).length = 8 := rfl
    have l2 : (wsOf st next gone s).length = 8 := rfl
    have hdiff : ∀ k, k < 8 → if k = 2 then (wsOf st next gone s).getD k 0#64 = next else (wsOf st nx gone s).getD k 0#64 = (wsOf st next gone s).getD k 0#64 := by
      intro k h1
      have : k = 0 ∨ k = 1 ∨ k = 2 ∨ k = 3 ∨ k = 4 ∨ k = 5 ∨ k = 6 ∨ k = 7 := by omega
      rcases this with h | h | h | h | h | h | h | h <;> subst h <;> rfl
    generalize wsOf st nx gone s = la at *
    generalize wsOf st next gone s = lb at *
    simp -implicitDefEqProofs [go_sem, l1, l2]
    refine wpE_loop (fun e' w' => ∃ k : Nat, k ≤ 8 ∧ e' 1 = .int .u64 (uv next) ∧ e' 5 = .slice a3 8 c3 ∧ e' 8 = .slice a5 8 c5 ∧ e' 41 = .int .i64 8 ∧ e' 42 = .int .i64 k ∧ Below w5.heap.size w5 w') (fun e' _ => 8 - (intOf (e' 42)).toNat) ?_ ?_
    · refine ⟨0, by omega, ?_⟩
      simp -implicitDefEqProofs [go_sem]
      exact Below.refl _ _
    · rintro e' w' ⟨k, hk, h1, h5, h8, h41, h42, bel⟩
      by_cases hlt : k < 8
      · obtain ⟨ba, oa, rfl, ga⟩ := (hin3.next bel).at_.cellD (i := k) (by omega)
        obtain ⟨bb, ob, rfl, gb⟩ := (hin5.next bel).at_.cellD (i := k) (by omega)
        have hw := IntWalk.i64_in ((k : Int) + 1) (by omega)
        have hlt' : (k : Int) < 8 := by omega
        have hd := hdiff k (by omega)
        simp only [List.getD_eq_getElem?_getD] at hd
        simp -implicitDefEqProofs [go_sem, h1, h5, h8, h41, h42, hlt, hlt']
        refine drawE_still mixed (by decide +kernel) ?_
        by_cases h2 : k = 2
        · subst h2
          rw [if_pos rfl] at hd
          simp -implicitDefEqProofs [go_sem, h1, h5, h8, h41, h42, gb, hd]
          unfold endE
          simp -implicitDefEqProofs [go_sem, hw, h42, show IntKind.i64.wrap 3 = 3 from rfl]
          refine goE_round ⟨3, by omega, ?_⟩ ?_
          · simp -implicitDefEqProofs [go_sem, h1, h5, h8, h41, show IntKind.i64.wrap 3 = 3 from rfl]
            exact bel.drew
          · simp -implicitDefEqProofs [go_sem, intOf, h42, show IntKind.i64.wrap 3 = 3 from rfl]
        · have h2' : ((k : Int) != 2) = true := by rw [bne_iff_ne]; omega
          have h2'' : ((k : Int) == 2) = false := by rw [beq_eq_false_iff_ne]; omega
          rw [if_neg h2] at hd
          simp -implicitDefEqProofs [go_sem, h1, h5, h8, h41, h42, ga, gb, hd, h2', h2'', hlt, hlt']
          unfold endE
          simp -implicitDefEqProofs [go_sem, hw, h42]
          refine goE_round ⟨k + 1, by omega, ?_⟩ ?_
          · simp -implicitDefEqProofs [go_sem, h1, h5, h8, h41]
            exact bel.drew
          · simp -implicitDefEqProofs [go_sem, intOf, h42]; omega
      · have hk' : k = 8 := by omega
        subst hk'
        simp -implicitDefEqProofs [go_sem, h1, h5, h8, h41, h42]
        refine body_tmp 4 rfl ?_
        simp -implicitDefEqProofs [go_sem]
        exact bel5.trans (bel.mono bel5.size)
end Go.Proofs.Ytgdjnginljamoaa
