/- The laws of slab: SlabTells. -/
import Derived.Test.YtcaekgkogiggoaaDoorSlabLaw
namespace Go.Proofs.YtcaekgkogiggoaaDoor
open Go Go.RowKit

set_option maxHeartbeats 1000000 in
set_option linter.unusedSimpArgs false in
theorem slabTells_walk (x : BitVec 64) (c p : Int) (w0 : World) (hT : Tabs w0) : Ret Tryd.prog 12 #[.int .u64 (uv x), .int .i64 c, .int .i64 p] w0 fun v w' => v = .bool true ∧ Below w0.heap.size w0 w' := by
  have bel0 := Below.refl w0.heap.size w0
  have hlen : (WM.listM x).length ≤ 16 := by rw [WM.list_len]; exact WM.cnt_le _ _
  refine ret_of (args := [_, _, _]) _ Tryd.func12 rfl Tryd.ntmps12 (by simp) ?_
  simp -implicitDefEqProofs [go_sem]
  refine callE_of (slabAlive_calls w0 hT) ?_
  rintro v w1 ⟨rfl, b1⟩
  have bel1 := bel0.trans (b1.mono bel0.size)
  replace hT := hT.next b1
  simp -implicitDefEqProofs [go_sem]
  refine callE_of (of_calls x _) ?_
  rintro v w2 ⟨rfl, b2⟩
  have bel2 := bel1.trans (b2.mono bel1.size)
  replace hT := hT.next b2
  simp -implicitDefEqProofs [go_sem, ↓stSlab (WM.cR x) (WM.tR x)]
  generalize hw3 : World.alloc w2 _ = w3 at *
  obtain ⟨hB3, b3, sz3⟩ := new_facts hw3
  have bel3 := bel2.trans (b3.mono bel2.size)
  replace hT := hT.next b3
  refine callE_of (list_calls x _) ?_
  rintro v w4 ⟨a4, c4, rfl, hin4, b4⟩
  have bel4 := bel3.trans (b4.mono bel3.size)
  replace hT := hT.next b4
  replace hB3 := hB3.next b4
  simp -implicitDefEqProofs [go_sem]
  refine callE_of (refList_calls x _) ?_
  rintro v w5 ⟨a5, c5, rfl, hin5, b5⟩
  have bel5 := bel4.trans (b5.mono bel4.size)
  replace hT := hT.next b5
  replace hB3 := hB3.next b5
  replace hin4 := hin4.next b5
  generalize WM.listM x = la at *
  simp -implicitDefEqProofs [go_sem]
  refine wpE_loop (fun e' w' => ∃ k : Nat, k ≤ la.length ∧ e' 0 = .int .u64 (uv x) ∧ e' 1 = .int .i64 c ∧ e' 2 = .int .i64 p ∧ e' 7 = .pointer (some ⟨w2.heap.size, 0, none⟩) ∧ e' 8 = .bool (WM.rB x) ∧ e' 9 = .slice a4 la.length c4 ∧ e' 10 = .slice a5 la.length c5 ∧ e' 30 = .int .i64 la.length ∧ e' 31 = .int .i64 k ∧ Below w5.heap.size w5 w') (fun e' _ => 17 - (intOf (e' 31)).toNat) ?_ ?_
  · refine ⟨0, by omega, ?_⟩
    simp -implicitDefEqProofs [go_sem]
    exact Below.refl _ _
  · rintro e' w7 ⟨k, hk, g0, g1, g2, g7, g8, g9, g10, g30, g31, b7⟩
    by_cases hlt : k < la.length
    · have hlt' : (k : Int) < la.length := by omega
      obtain ⟨ba, oa, rfl, ga⟩ := (hin4.next b7).at_.cell (i := k) (by rw [nats_length]; exact hlt)
      obtain ⟨bb, ob, rfl, gb⟩ := (hin5.next b7).at_.cell (i := k) (by rw [nats_length]; exact hlt)
      have hw := IntWalk.i64_in ((k : Int) + 1) (by omega)
      simp only [nats, List.getElem_map] at ga gb
      generalize la[k] = y1 at *
      simp -implicitDefEqProofs [go_sem, g0, g1, g2, g7, g8, g9, g10, g30, g31, hlt, hlt']
      refine drawE_still mixed (by decide +kernel) ?_
      simp -implicitDefEqProofs [go_sem, g0, g1, g2, g7, g8, g9, g10, g30, g31, hlt, hlt', ga, gb]
      unfold endE
      simp -implicitDefEqProofs [go_sem, g31, hw]
      refine goE_round ⟨k + 1, by omega, ?_⟩ ?_
      · simp -implicitDefEqProofs [go_sem, g0, g1, g2, g7, g8, g9, g10, g30]
        exact b7.drew
      · simp -implicitDefEqProofs [go_sem, intOf, g31, hw]; omega
    · have hk' : k = la.length := by omega
      subst hk'
      have bel7 := bel5.trans (b7.mono bel5.size)
      replace hT := hT.next b7
      replace hB3 := hB3.next b7
      by_cases hp0 : 0 ≤ p
      · by_cases hp1 : p < 16
        · obtain ⟨q, rfl⟩ := Int.eq_ofNat_of_zero_le hp0
          have hq : q < 16 := by omega
          have hhas := WM.has_ref x q hq
          have hmx : min (q : Int) 15 = q := by omega
          have hq2 : (q : Int) < 16 := by omega
          have gq := hB3.cell (1 + q)
          rw [slabC_at _ _ _ hq] at gq
          simp -implicitDefEqProofs [go_sem, g0, g1, g2, g7, g8, g9, g10, g30, g31, hp1, hq, hq2, hmx, gq]
          obtain ⟨S, hS⟩ : ∃ S : World → Prop, S = fun w' => Below w7.heap.size w7 w' := ⟨_, rfl⟩
          refine drawE_quiet S mixed (by decide +kernel) (by subst_vars; first | exact (Below.refl _ _).drew | assumption) (fun hsome => ?_)
          have hb : ∀ w', S w' → Below w7.heap.size w7 w' := fun w' h => by rw [hS] at h; exact h
          have hto : ∀ w', S w' → ∀ w'', Below w'.heap.size w' w'' → S w'' := fun w' h w'' h2 => by rw [hS] at h ⊢; exact h.trans (h2.mono h.size)
          have kc := fun w' h => (hB3.next (hb w' h)).cell 0
          simp only [slabC_0] at kc
          simp -implicitDefEqProofs [go_sem, hsome, g0, g1, g2, g7, g8]
          refine onQuiet_call _ (fun w' hw => (right_calls x w').mono fun v w'' h => ⟨h.1, hto _ hw _ h.2⟩) ?_
          simp -implicitDefEqProofs [go_sem, hsome, g0, g1, g2, g7, g8, WM.rB_eq]
          refine onQuiet_call _ (fun w' hw => (class_calls x w').mono fun v w'' h => ⟨h.1, hto _ hw _ h.2⟩) ?_
          simp -implicitDefEqProofs [go_sem, hsome, g0, g1, g2, g7, g8]
          refine onQuiet_of (.int .i64 (WM.cR x)) (fun w' hw => by simp -implicitDefEqProofs [go_sem, kc w' hw]) ?_
          simp -implicitDefEqProofs [go_sem, hsome, g0, g1, g2, g7, g8, WM.cR_class]
          refine onQuiet_call _ (fun w' hw => (has_calls' x _ w').mono fun v w'' h => ⟨h.1, hto _ hw _ h.2⟩) ?_
          simp -implicitDefEqProofs [go_sem, hsome, g0, g1, g2, g7, g8, hhas]
          refine onQuiet_call _ (fun w' hw => (next_calls x c w' (hT.next (hb w' hw))).mono fun v w'' h => ⟨h.1, hto _ hw _ h.2⟩) ?_
          simp -implicitDefEqProofs [go_sem, hsome, g0, g1, g2, g7, g8]
          refine onQuiet_call _ (fun w' hw => (refNext_calls x c w').mono fun v w'' h => ⟨h.1, hto _ hw _ h.2⟩) ?_
          simp -implicitDefEqProofs [go_sem, hsome, g0, g1, g2, g7, g8]
          refine onQuiet_call _ (fun w' hw => (blocks_calls c w').mono fun v w'' h => ⟨h.1, by rw [h.2]; exact hw⟩) ?_
          simp -implicitDefEqProofs [go_sem, hsome, g0, g1, g2, g7, g8]
          refine onQuiet_call _ (fun w' hw => (refBlocks_calls c w').mono fun v w'' h => ⟨h.1, by rw [h.2]; exact hw⟩) ?_
          simp -implicitDefEqProofs [go_sem, hsome, g0, g1, g2, g7, g8]
          refine onQuiet_call _ (fun w' hw => (lines_calls c w').mono fun v w'' h => ⟨h.1, by rw [h.2]; exact hw⟩) ?_
          simp -implicitDefEqProofs [go_sem, hsome, g0, g1, g2, g7, g8]
          refine onQuiet_call _ (fun w' hw => (refLines_calls c w').mono fun v w'' h => ⟨h.1, by rw [h.2]; exact hw⟩) ?_
          simp -implicitDefEqProofs [go_sem, hsome, g0, g1, g2, g7, g8]
          unfold endE
          intro w9 h9
          simp -implicitDefEqProofs [go_sem, g0, g1, g2, g7, g8]
          refine body_tmp 6 rfl ?_
          simp -implicitDefEqProofs [go_sem]
          exact bel7.trans ((hb _ h9).mono bel7.size)
        · have hhas := WM.has_out x p (.inr (by omega))
          simp -implicitDefEqProofs [go_sem, g0, g1, g2, g7, g8, g9, g10, g30, g31, hp0, hp1]
          obtain ⟨S, hS⟩ : ∃ S : World → Prop, S = fun w' => Below w7.heap.size w7 w' := ⟨_, rfl⟩
          refine drawE_quiet S mixed (by decide +kernel) (by subst_vars; first | exact (Below.refl _ _).drew | assumption) (fun hsome => ?_)
          have hb : ∀ w', S w' → Below w7.heap.size w7 w' := fun w' h => by rw [hS] at h; exact h
          have hto : ∀ w', S w' → ∀ w'', Below w'.heap.size w' w'' → S w'' := fun w' h w'' h2 => by rw [hS] at h ⊢; exact h.trans (h2.mono h.size)
          have kc := fun w' h => (hB3.next (hb w' h)).cell 0
          simp only [slabC_0] at kc
          simp -implicitDefEqProofs [go_sem, hsome, g0, g1, g2, g7, g8]
          refine onQuiet_call _ (fun w' hw => (right_calls x w').mono fun v w'' h => ⟨h.1, hto _ hw _ h.2⟩) ?_
          simp -implicitDefEqProofs [go_sem, hsome, g0, g1, g2, g7, g8, WM.rB_eq]
          refine onQuiet_call _ (fun w' hw => (class_calls x w').mono fun v w'' h => ⟨h.1, hto _ hw _ h.2⟩) ?_
          simp -implicitDefEqProofs [go_sem, hsome, g0, g1, g2, g7, g8]
          refine onQuiet_of (.int .i64 (WM.cR x)) (fun w' hw => by simp -implicitDefEqProofs [go_sem, kc w' hw]) ?_
          simp -implicitDefEqProofs [go_sem, hsome, g0, g1, g2, g7, g8, WM.cR_class]
          refine onQuiet_call _ (fun w' hw => (has_calls' x _ w').mono fun v w'' h => ⟨h.1, hto _ hw _ h.2⟩) ?_
          simp -implicitDefEqProofs [go_sem, hsome, g0, g1, g2, g7, g8, hhas]
          refine onQuiet_call _ (fun w' hw => (next_calls x c w' (hT.next (hb w' hw))).mono fun v w'' h => ⟨h.1, hto _ hw _ h.2⟩) ?_
          simp -implicitDefEqProofs [go_sem, hsome, g0, g1, g2, g7, g8]
          refine onQuiet_call _ (fun w' hw => (refNext_calls x c w').mono fun v w'' h => ⟨h.1, hto _ hw _ h.2⟩) ?_
          simp -implicitDefEqProofs [go_sem, hsome, g0, g1, g2, g7, g8]
          refine onQuiet_call _ (fun w' hw => (blocks_calls c w').mono fun v w'' h => ⟨h.1, by rw [h.2]; exact hw⟩) ?_
          simp -implicitDefEqProofs [go_sem, hsome, g0, g1, g2, g7, g8]
          refine onQuiet_call _ (fun w' hw => (refBlocks_calls c w').mono fun v w'' h => ⟨h.1, by rw [h.2]; exact hw⟩) ?_
          simp -implicitDefEqProofs [go_sem, hsome, g0, g1, g2, g7, g8]
          refine onQuiet_call _ (fun w' hw => (lines_calls c w').mono fun v w'' h => ⟨h.1, by rw [h.2]; exact hw⟩) ?_
          simp -implicitDefEqProofs [go_sem, hsome, g0, g1, g2, g7, g8]
          refine onQuiet_call _ (fun w' hw => (refLines_calls c w').mono fun v w'' h => ⟨h.1, by rw [h.2]; exact hw⟩) ?_
          simp -implicitDefEqProofs [go_sem, hsome, g0, g1, g2, g7, g8]
          unfold endE
          intro w9 h9
          simp -implicitDefEqProofs [go_sem, g0, g1, g2, g7, g8]
          refine body_tmp 6 rfl ?_
          simp -implicitDefEqProofs [go_sem]
          exact bel7.trans ((hb _ h9).mono bel7.size)
      · have hhas := WM.has_out x p (.inl (by omega))
        simp -implicitDefEqProofs [go_sem, g0, g1, g2, g7, g8, g9, g10, g30, g31, hp0]
        obtain ⟨S, hS⟩ : ∃ S : World → Prop, S = fun w' => Below w7.heap.size w7 w' := ⟨_, rfl⟩
        refine drawE_quiet S mixed (by decide +kernel) (by subst_vars; first | exact (Below.refl _ _).drew | assumption) (fun hsome => ?_)
        have hb : ∀ w', S w' → Below w7.heap.size w7 w' := fun w' h => by rw [hS] at h; exact h
        have hto : ∀ w', S w' → ∀ w'', Below w'.heap.size w' w'' → S w'' := fun w' h w'' h2 => by rw [hS] at h ⊢; exact h.trans (h2.mono h.size)
        have kc := fun w' h => (hB3.next (hb w' h)).cell 0
        simp only [slabC_0] at kc
        simp -implicitDefEqProofs [go_sem, hsome, g0, g1, g2, g7, g8]
        refine onQuiet_call _ (fun w' hw => (right_calls x w').mono fun v w'' h => ⟨h.1, hto _ hw _ h.2⟩) ?_
        simp -implicitDefEqProofs [go_sem, hsome, g0, g1, g2, g7, g8, WM.rB_eq]
        refine onQuiet_call _ (fun w' hw => (class_calls x w').mono fun v w'' h => ⟨h.1, hto _ hw _ h.2⟩) ?_
        simp -implicitDefEqProofs [go_sem, hsome, g0, g1, g2, g7, g8]
        refine onQuiet_of (.int .i64 (WM.cR x)) (fun w' hw => by simp -implicitDefEqProofs [go_sem, kc w' hw]) ?_
        simp -implicitDefEqProofs [go_sem, hsome, g0, g1, g2, g7, g8, WM.cR_class]
        refine onQuiet_call _ (fun w' hw => (has_calls' x _ w').mono fun v w'' h => ⟨h.1, hto _ hw _ h.2⟩) ?_
        simp -implicitDefEqProofs [go_sem, hsome, g0, g1, g2, g7, g8, hhas]
        refine onQuiet_call _ (fun w' hw => (next_calls x c w' (hT.next (hb w' hw))).mono fun v w'' h => ⟨h.1, hto _ hw _ h.2⟩) ?_
        simp -implicitDefEqProofs [go_sem, hsome, g0, g1, g2, g7, g8]
        refine onQuiet_call _ (fun w' hw => (refNext_calls x c w').mono fun v w'' h => ⟨h.1, hto _ hw _ h.2⟩) ?_
        simp -implicitDefEqProofs [go_sem, hsome, g0, g1, g2, g7, g8]
        refine onQuiet_call _ (fun w' hw => (blocks_calls c w').mono fun v w'' h => ⟨h.1, by rw [h.2]; exact hw⟩) ?_
        simp -implicitDefEqProofs [go_sem, hsome, g0, g1, g2, g7, g8]
        refine onQuiet_call _ (fun w' hw => (refBlocks_calls c w').mono fun v w'' h => ⟨h.1, by rw [h.2]; exact hw⟩) ?_
        simp -implicitDefEqProofs [go_sem, hsome, g0, g1, g2, g7, g8]
        refine onQuiet_call _ (fun w' hw => (lines_calls c w').mono fun v w'' h => ⟨h.1, by rw [h.2]; exact hw⟩) ?_
        simp -implicitDefEqProofs [go_sem, hsome, g0, g1, g2, g7, g8]
        refine onQuiet_call _ (fun w' hw => (refLines_calls c w').mono fun v w'' h => ⟨h.1, by rw [h.2]; exact hw⟩) ?_
        simp -implicitDefEqProofs [go_sem, hsome, g0, g1, g2, g7, g8]
        unfold endE
        intro w9 h9
        simp -implicitDefEqProofs [go_sem, g0, g1, g2, g7, g8]
        refine body_tmp 6 rfl ?_
        simp -implicitDefEqProofs [go_sem]
        exact bel7.trans ((hb _ h9).mono bel7.size)
end Go.Proofs.YtcaekgkogiggoaaDoor
