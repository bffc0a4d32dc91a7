/- The laws of slab: alive, SlabTakes, SlabOrder, SlabWords. -/
import Derived.Test.YtcaekgkogiggoaaDoorSlabRef2
import Derived.Test.YtcaekgkogiggoaaDoorSlabMath3
namespace Go.Proofs.YtcaekgkogiggoaaDoor
open Go Go.RowKit

set_option maxHeartbeats 1000000 in
set_option linter.unusedSimpArgs false in
theorem slabAlive_calls (w0 : World) (hT : Tabs w0) : Ret Tryd.prog 22 #[] w0 fun v w' => v = .bool true ∧ Below w0.heap.size w0 w' := by
  have bel0 := Below.refl w0.heap.size w0
  have h1 := fun w => take_calls 0#64 2 1 w
  rw [show WM.takeW 0#64 2 1 = 131074#64 by decide +kernel, show WM.takeOk 0#64 2 1 = true by decide +kernel, show uv 0#64 = 0 from rfl, show uv 131074#64 = 131074 from rfl] at h1
  have h2 := fun w => drop_calls 131074#64 1 w
  rw [show WM.dropW 131074#64 1 = 0#64 by decide +kernel, show WM.hasM 131074#64 1 = true by decide +kernel, show uv 0#64 = 0 from rfl, show uv 131074#64 = 131074 from rfl] at h2
  have h3 := fun w h => next_calls 131074#64 2 w h
  rw [show WM.nextM 131074#64 2 = 0 by decide +kernel, show uv 131074#64 = 131074 from rfl] at h3
  have h4 := fun w h => next_calls 131074#64 1 w h
  rw [show WM.nextM 131074#64 1 = -1 by decide +kernel, show uv 131074#64 = 131074 from rfl] at h4
  have h5 := fun w => class_calls 131074#64 w
  rw [show WM.classM 131074#64 = 2 by decide +kernel, show uv 131074#64 = 131074 from rfl] at h5
  have h6 := fun w => has_calls' 131074#64 1 w
  rw [show WM.hasM 131074#64 1 = true by decide +kernel, show uv 131074#64 = 131074 from rfl] at h6
  have h7 := fun w => right_calls 131074#64 w
  rw [show WM.rightM 131074#64 = true by decide +kernel, show uv 131074#64 = 131074 from rfl] at h7
  have h8 := fun w => blocks_calls 1 w
  rw [show WM.blocksI 1 = 16 from rfl] at h8
  refine ret_of (args := []) _ Tryd.func22 rfl Tryd.ntmps22 (by simp) ?_
  simp -implicitDefEqProofs [go_sem]
  refine callE_of (h1 _) ?_
  rintro v w1 ⟨rfl, b1⟩
  have bel1 := bel0.trans (b1.mono bel0.size)
  replace hT := hT.next b1
  simp -implicitDefEqProofs [go_sem]
  refine callE_of (h2 _) ?_
  rintro v w2 ⟨rfl, b2⟩
  have bel2 := bel1.trans (b2.mono bel1.size)
  replace hT := hT.next b2
  simp -implicitDefEqProofs [go_sem]
  refine callE_of (h3 _ hT) ?_
  rintro v w3 ⟨rfl, b3⟩
  have bel3 := bel2.trans (b3.mono bel2.size)
  replace hT := hT.next b3
  simp -implicitDefEqProofs [go_sem]
  refine callE_of (h4 _ hT) ?_
  rintro v w4 ⟨rfl, b4⟩
  have bel4 := bel3.trans (b4.mono bel3.size)
  replace hT := hT.next b4
  simp -implicitDefEqProofs [go_sem]
  refine callE_of (h5 _) ?_
  rintro v w5 ⟨rfl, b5⟩
  have bel5 := bel4.trans (b5.mono bel4.size)
  replace hT := hT.next b5
  simp -implicitDefEqProofs [go_sem]
  refine callE_of (h6 _) ?_
  rintro v w6 ⟨rfl, b6⟩
  have bel6 := bel5.trans (b6.mono bel5.size)
  replace hT := hT.next b6
  simp -implicitDefEqProofs [go_sem]
  refine callE_of (h7 _) ?_
  rintro v w7 ⟨rfl, b7⟩
  have bel7 := bel6.trans (b7.mono bel6.size)
  replace hT := hT.next b7
  simp -implicitDefEqProofs [go_sem]
  refine callE_of (h8 _) ?_
  rintro v w8 ⟨rfl, rfl⟩
  simp -implicitDefEqProofs [go_sem]
  refine body_tmp 0 rfl ?_
  simp -implicitDefEqProofs [go_sem]
  exact bel7

set_option maxHeartbeats 1000000 in
set_option linter.unusedSimpArgs false in
theorem slabTakes_walk (x : BitVec 64) (c p : Int) (w0 : World) (hT : Tabs w0) : Ret Tryd.prog 8 #[.int .u64 (uv x), .int .i64 c, .int .i64 p] w0 fun v w' => v = .bool true ∧ Below w0.heap.size w0 w' := by
  have bel0 := Below.refl w0.heap.size w0
  refine ret_of (args := [_, _, _]) _ Tryd.func8 rfl Tryd.ntmps8 (by simp) ?_
  simp -implicitDefEqProofs [go_sem]
  refine callE_of (slabAlive_calls w0 hT) ?_
  rintro v w1 ⟨rfl, b1⟩
  have bel1 := bel0.trans (b1.mono bel0.size)
  simp -implicitDefEqProofs [go_sem]
  refine callE_of (take_calls x c p _) ?_
  rintro v w2 ⟨rfl, b2⟩
  have bel2 := bel1.trans (b2.mono bel1.size)
  simp -implicitDefEqProofs [go_sem]
  refine callE_of (refTake_calls x c p _) ?_
  rintro v w3 ⟨rfl, b3⟩
  have bel3 := bel2.trans (b3.mono bel2.size)
  simp -implicitDefEqProofs [go_sem]
  refine callE_of (drop_calls x p _) ?_
  rintro v w4 ⟨rfl, b4⟩
  have bel4 := bel3.trans (b4.mono bel3.size)
  simp -implicitDefEqProofs [go_sem]
  refine callE_of (refDrop_calls x p _) ?_
  rintro v w5 ⟨rfl, b5⟩
  have bel5 := bel4.trans (b5.mono bel4.size)
  simp -implicitDefEqProofs [go_sem]
  refine body_tmp 6 rfl ?_
  simp -implicitDefEqProofs [go_sem]
  exact bel5

set_option maxHeartbeats 1000000 in
set_option linter.unusedSimpArgs false in
theorem slabOrder_walk (x : BitVec 64) (c a b : Int) (w0 : World) (hT : Tabs w0) : Ret Tryd.prog 11 #[.agg #[.int .u64 (uv x), .int .i64 c, .int .i64 a, .int .i64 b]] w0 fun v w' => v = .bool true ∧ Below w0.heap.size w0 w' := by
  have bel0 := Below.refl w0.heap.size w0
  refine ret_of (args := [_]) _ Tryd.func11 rfl Tryd.ntmps11 (by simp) ?_
  simp -implicitDefEqProofs [go_sem]
  generalize hw1 : World.alloc w0 _ = w1 at *
  obtain ⟨hB1, b1, sz1⟩ := new_facts hw1
  have bel1 := bel0.trans (b1.mono bel0.size)
  replace hT := hT.next b1
  refine callE_of (slabAlive_calls w1 hT) ?_
  rintro v w2 ⟨rfl, b2⟩
  have bel2 := bel1.trans (b2.mono bel1.size)
  replace hB1 := hB1.next b2
  simp -implicitDefEqProofs [go_sem]
  refine drawE_still mixed (by decide +kernel) ?_
  simp -implicitDefEqProofs [go_sem, hB1.cell]
  unfold endE
  have bel3 := bel2.drew
  generalize w2.drew = w3 at *
  simp -implicitDefEqProofs [go_sem]
  refine callE_of (take_calls x c a _) ?_
  rintro v w4 ⟨rfl, b4⟩
  have bel4 := bel3.trans (b4.mono bel3.size)
  simp -implicitDefEqProofs [go_sem]
  refine callE_of (take_calls x c b _) ?_
  rintro v w5 ⟨rfl, b5⟩
  have bel5 := bel4.trans (b5.mono bel4.size)
  cases ha : WM.takeOk x c a
  · simp -implicitDefEqProofs [go_sem]
    refine body_tmp 2 rfl ?_
    simp -implicitDefEqProofs [go_sem]
    exact bel5
  cases hb : WM.takeOk x c b
  · simp -implicitDefEqProofs [go_sem]
    refine body_tmp 2 rfl ?_
    simp -implicitDefEqProofs [go_sem]
    exact bel5
  by_cases hab : a = b
  · subst hab
    simp -implicitDefEqProofs [go_sem]
    refine body_tmp 2 rfl ?_
    simp -implicitDefEqProofs [go_sem]
    exact bel5
  have hab' : (a == b) = false := by rw [beq_eq_false_iff_ne]; exact hab
  obtain ⟨l1, l2, l3, l4⟩ := WM.order_law ha hb hab
  have hlen : (WM.listM x).length ≤ 16 := by rw [WM.list_len]; exact WM.cnt_le _ _
  simp -implicitDefEqProofs [go_sem, hab']
  refine callE_of (take_calls _ c b _) ?_
  rintro v w6 ⟨rfl, b6⟩
  have bel6 := bel5.trans (b6.mono bel5.size)
  simp -implicitDefEqProofs [go_sem]
  refine callE_of (take_calls _ c a _) ?_
  rintro v w7 ⟨rfl, b7⟩
  have bel7 := bel6.trans (b7.mono bel6.size)
  rw [l1, l2]
  generalize WM.takeW (WM.takeW x c a) c b = u at *
  simp -implicitDefEqProofs [go_sem, ← l3]
  refine callE_of (list_calls u _) ?_
  rintro v w8 ⟨a8, c8, rfl, _, b8⟩
  have bel8 := bel7.trans (b8.mono bel7.size)
  simp -implicitDefEqProofs [go_sem]
  refine callE_of (list_calls x _) ?_
  rintro v w9 ⟨a9, c9, rfl, _, b9⟩
  have bel9 := bel8.trans (b9.mono bel8.size)
  have hw := IntWalk.i64_in (((WM.listM x).length : Int) + 2) (by omega)
  simp -implicitDefEqProofs [go_sem, hw, l4]
  refine body_tmp 2 rfl ?_
  simp -implicitDefEqProofs [go_sem]
  exact bel9

set_option maxHeartbeats 1000000 in
set_option linter.unusedSimpArgs false in
theorem slabWords_walk (v1 v2 : BitVec 64) (w0 : World) (hT : Tabs w0) : Ret Tryd.prog 10 #[.int .u64 (uv v1), .int .u64 (uv v2)] w0 fun v w' => v = .bool true ∧ Below w0.heap.size w0 w' := by
  have bel0 := Below.refl w0.heap.size w0
  have hlen1 : (WM.listM v1).length ≤ 16 := by rw [WM.list_len]; exact WM.cnt_le _ _
  have hlen2 : (WM.listM v2).length ≤ 16 := by rw [WM.list_len]; exact WM.cnt_le _ _
  refine ret_of (args := [_, _]) _ Tryd.func10 rfl Tryd.ntmps10 (by simp) ?_
  simp -implicitDefEqProofs [go_sem]
  refine callE_of (slabAlive_calls w0 hT) ?_
  rintro v w1 ⟨rfl, b1⟩
  have bel1 := bel0.trans (b1.mono bel0.size)
  simp -implicitDefEqProofs [go_sem]
  refine callE_of (right_calls v1 _) ?_
  rintro v w2 ⟨rfl, b2⟩
  have bel2 := bel1.trans (b2.mono bel1.size)
  cases h1 : WM.rightM v1
  · simp -implicitDefEqProofs [go_sem]
    refine callE_of (list_calls v1 _) ?_
    rintro v w3 ⟨a3, c3, rfl, _, b3⟩
    have bel3 := bel2.trans (b3.mono bel2.size)
    rw [WM.list_wrong h1]
    simp -implicitDefEqProofs [go_sem]
    refine callE_of (list_calls v2 _) ?_
    rintro v w4 ⟨a4, c4, rfl, _, b4⟩
    have bel4 := bel3.trans (b4.mono bel3.size)
    simp -implicitDefEqProofs [go_sem, show IntKind.i64.wrap 0 = 0 from rfl]
    refine body_tmp 4 rfl ?_
    simp -implicitDefEqProofs [go_sem, show IntKind.i64.wrap 0 = 0 from rfl]
    exact bel4
  simp -implicitDefEqProofs [go_sem]
  refine callE_of (right_calls v2 _) ?_
  rintro v w3 ⟨rfl, b3⟩
  have bel3 := bel2.trans (b3.mono bel2.size)
  cases h2 : WM.rightM v2
  · simp -implicitDefEqProofs [go_sem]
    refine callE_of (list_calls v1 _) ?_
    rintro v w4 ⟨a4, c4, rfl, _, b4⟩
    have bel4 := bel3.trans (b4.mono bel3.size)
    simp -implicitDefEqProofs [go_sem]
    refine callE_of (list_calls v2 _) ?_
    rintro v w5 ⟨a5, c5, rfl, _, b5⟩
    have bel5 := bel4.trans (b5.mono bel4.size)
    rw [WM.list_wrong h2]
    simp -implicitDefEqProofs [go_sem, show IntKind.i64.wrap 0 = 0 from rfl]
    refine body_tmp 4 rfl ?_
    simp -implicitDefEqProofs [go_sem, show IntKind.i64.wrap 0 = 0 from rfl]
    exact bel5
  simp -implicitDefEqProofs [go_sem]
  refine callE_of (list_calls v1 _) ?_
  rintro v w4 ⟨a4, c4, rfl, hin4, b4⟩
  have bel4 := bel3.trans (b4.mono bel3.size)
  simp -implicitDefEqProofs [go_sem]
  refine callE_of (list_calls v2 _) ?_
  rintro v w5 ⟨a5, c5, rfl, hin5, b5⟩
  have bel5 := bel4.trans (b5.mono bel4.size)
  replace hin4 := hin4.next b5
  simp -implicitDefEqProofs [go_sem]
  refine callE_of (class_calls v1 _) ?_
  rintro v w6 ⟨rfl, b6⟩
  have bel6 := bel5.trans (b6.mono bel5.size)
  replace hin4 := hin4.next b6
  replace hin5 := hin5.next b6
  simp -implicitDefEqProofs [go_sem]
  refine callE_of (class_calls v2 _) ?_
  rintro v w7 ⟨rfl, b7⟩
  have bel7 := bel6.trans (b7.mono bel6.size)
  replace hin4 := hin4.next b7
  replace hin5 := hin5.next b7
  have hlaw := WM.words_law h1 h2
  generalize WM.classM v1 = k1 at *
  generalize WM.classM v2 = k2 at *
  generalize WM.listM v1 = la at *
  generalize WM.listM v2 = lb at *
  by_cases hk : k1 = k2
  · subst hk
    by_cases hl : la.length = lb.length
    · have hl' : ((la.length : Int) == lb.length) = true := by rw [beq_iff_eq]; omega
      simp -implicitDefEqProofs [go_sem, hl]
      refine wpE_loop (fun e' w' => ∃ (k : Nat) (sm : Bool), k ≤ la.length ∧ (sm = true → la.take k = lb.take k) ∧ (sm = false → la ≠ lb) ∧ e' 0 = .int .u64 (uv v1) ∧ e' 1 = .int .u64 (uv v2) ∧ e' 5 = .slice a4 la.length c4 ∧ e' 6 = .slice a5 la.length c5 ∧ e' 7 = .bool sm ∧ e' 8 = .int .i64 k ∧ Below w7.heap.size w7 w') (fun e' _ => 17 - (intOf (e' 8)).toNat) ?_ ?_
      · refine ⟨0, true, by omega, by simp, by simp, ?_⟩
        simp -implicitDefEqProofs [go_sem, hl]
        exact Below.refl _ _
      · rintro e' w' ⟨k, sm, hk, ht, hf, g0, g1, g5, g6, g7, g8, bel⟩
        cases sm
        · have hne : v1 ≠ v2 := fun h => hf rfl (hlaw.1 h).2
          have hne' : (v1 == v2) = false := by rw [beq_eq_false_iff_ne]; exact hne
          simp -implicitDefEqProofs [go_sem, g0, g1, g5, g6, g7, g8]
          refine body_tmp 4 rfl ?_
          simp -implicitDefEqProofs [go_sem, hne']
          exact bel7.trans (bel.mono bel7.size)
        · by_cases hlt : k < la.length
          · have hlt' : (k : Int) < la.length := by omega
            have hlt2 : (k : Int) < lb.length := by omega
            have hltN : k < lb.length := by omega
            obtain ⟨ba, oa, rfl, ga⟩ := (hin4.next bel).at_.cell (i := k) (by rw [nats_length]; exact hlt)
            obtain ⟨bb, ob, rfl, gb⟩ := (hin5.next bel).at_.cell (i := k) (by rw [nats_length]; omega)
            have hw := IntWalk.i64_in ((k : Int) + 1) (by omega)
            simp only [nats, List.getElem_map] at ga gb
            have hta := List.take_succ_eq_append_getElem hlt
            have htb := List.take_succ_eq_append_getElem (show k < lb.length by omega)
            have hxy : la[k] = lb[k]'(by omega) ∨ la[k] ≠ lb[k]'(by omega) := by omega
            have hne2 : la[k] ≠ lb[k]'(by omega) → la ≠ lb := by rintro h rfl; exact h rfl
            generalize la[k] = y1 at *
            generalize lb[k]'(by omega) = y2 at *
            simp -implicitDefEqProofs [go_sem, g0, g1, g5, g6, g7, g8, hlt, hlt', hltN, hl]
            refine drawE_still mixed (by decide +kernel) ?_
            simp -implicitDefEqProofs [go_sem, g0, g1, g5, g6, g7, g8, hlt, hlt', hlt2, hltN, hl, ga, gb]
            unfold endE
            simp -implicitDefEqProofs [go_sem, g8, hw]
            refine goE_round ⟨k + 1, decide ((y1 : Int) = y2), by omega, fun h => ?_, fun h => ?_, ?_⟩ ?_
            · have : y1 = y2 := by have := of_decide_eq_true h; omega
              rw [hta, htb, ht rfl, this]
            · exact hne2 (by have := of_decide_eq_false h; omega)
            · simp -implicitDefEqProofs [go_sem, g0, g1, g5, g6]
              exact ⟨by rw [Bool.eq_iff_iff, beq_iff_eq, decide_eq_true_iff], bel.drew⟩
            · simp -implicitDefEqProofs [go_sem, intOf, g8, hw]; omega
          · have hk' : k = la.length := by omega
            have heq : la = lb := by
              have := ht rfl
              rw [hk', List.take_length, hl, List.take_length] at this; exact this
            have hv : v1 = v2 := hlaw.2 ⟨rfl, heq⟩
            subst hk'
            simp -implicitDefEqProofs [go_sem, g0, g1, g5, g6, g7, g8, hl]
            refine body_tmp 4 rfl ?_
            simp -implicitDefEqProofs [go_sem, hv]
            exact bel7.trans (bel.mono bel7.size)
    · have hl' : ((la.length : Int) == lb.length) = false := by rw [beq_eq_false_iff_ne]; omega
      have hne : v1 ≠ v2 := fun h => hl (by rw [(hlaw.1 h).2])
      have hne' : (v1 == v2) = false := by rw [beq_eq_false_iff_ne]; exact hne
      simp -implicitDefEqProofs [go_sem, hl, hl']
      refine wpE_rounds 1 ?_
      simp -implicitDefEqProofs [go_sem]
      refine body_tmp 4 rfl ?_
      simp -implicitDefEqProofs [go_sem, hne']
      exact bel7
  · have hk' : (k1 == k2) = false := by rw [beq_eq_false_iff_ne]; exact hk
    have hne : v1 ≠ v2 := fun h => hk (hlaw.1 h).1
    have hne' : (v1 == v2) = false := by rw [beq_eq_false_iff_ne]; exact hne
    simp -implicitDefEqProofs [go_sem, hk']
    refine wpE_rounds 1 ?_
    simp -implicitDefEqProofs [go_sem]
    refine body_tmp 4 rfl ?_
    simp -implicitDefEqProofs [go_sem, hne']
    exact bel7
end Go.Proofs.YtcaekgkogiggoaaDoor
