/- The laws of slab: SlabFills. -/
import Derived.Test.YtcaekgkogiggoaaDoorSlabLaw
import Derived.Test.YtcaekgkogiggoaaDoorSlabMath4
import Derived.Test.YtcaekgkogiggoaaDoorWords
namespace Go.Proofs.YtcaekgkogiggoaaDoor
open Go Go.RowKit

set_option maxHeartbeats 1000000 in
set_option linter.unusedSimpArgs false in
theorem slabFills_walk (c : Int) (a : Option Addr) (l : List (BitVec 8)) (cap : Nat) (w0 : World) (hT : Tabs w0) (hin : SlIn .u8 w0 a l cap) : Ret Tryd.prog 9 #[.int .i64 c, .slice a l.length cap] w0 fun v w' => v = .bool true ∧ Below w0.heap.size w0 w' := by
  have bel0 := Below.refl w0.heap.size w0
  obtain ⟨n, hn, hn16, hrb, hcr, hcnt, hnext, hfill⟩ := fill_all c
  refine ret_of (args := [_, _]) _ Tryd.func9 rfl Tryd.ntmps9 (by simp) ?_
  simp -implicitDefEqProofs [go_sem]
  refine callE_of (slabAlive_calls w0 hT) ?_
  rintro v w1 ⟨rfl, b1⟩
  have bel1 := bel0.trans (b1.mono bel0.size)
  replace hT := hT.next b1
  replace hin := hin.next b1
  by_cases hbig : (100 : Int) < (l.length : Int)
  · simp -implicitDefEqProofs [go_sem, hbig]
    refine body_tmp 4 rfl ?_
    simp -implicitDefEqProofs [go_sem]
    exact bel1
  simp -implicitDefEqProofs [go_sem, hbig]
  refine callE_of (blocks_calls c w1) ?_
  rintro v w2 ⟨rfl, rfl⟩
  rw [hn]
  simp -implicitDefEqProofs [go_sem]
  refine wpE_loop (fun e' w' => ∃ k : Nat, k ≤ n ∧ e' 0 = .int .i64 c ∧ e' 1 = .slice a l.length cap ∧ e' 5 = .int .u64 (uv (fillW c k)) ∧ e' 21 = .int .i64 n ∧ e' 22 = .int .i64 k ∧ Below w2.heap.size w2 w') (fun e' _ => 17 - (intOf (e' 22)).toNat) ?_ ?_
  · refine ⟨0, by omega, ?_⟩
    simp -implicitDefEqProofs [go_sem, fillW, show uv 0#64 = 0 from rfl]
    exact Below.refl _ _
  · rintro e' w3 ⟨k, hk, g0, g1, g5, g21, g22, b3⟩
    have bel3 := bel1.trans (b3.mono bel1.size)
    replace hT := hT.next b3
    by_cases hlt : k < n
    · obtain ⟨hnk, hok⟩ := hfill k hlt
      have hlt' : (k : Int) < n := by omega
      have hw := IntWalk.i64_in ((k : Int) + 1) (by omega)
      simp -implicitDefEqProofs [go_sem, g0, g1, g5, g21, g22, hlt, hlt']
      refine callE_of (next_calls _ c w3 hT) ?_
      rintro v w4 ⟨rfl, b4⟩
      rw [hnk]
      simp -implicitDefEqProofs [go_sem, g0, g5]
      refine callE_of (take_calls _ c k w4) ?_
      rintro v w5 ⟨rfl, b5⟩
      rw [hok, show WM.takeW (fillW c k) c k = fillW c (k + 1) from rfl]
      simp -implicitDefEqProofs [go_sem, g0, g1, g5, g21, g22, hw]
      refine goE_round ⟨k + 1, by omega, ?_⟩ ?_
      · simp -implicitDefEqProofs [go_sem, g0, g1, g21]
        have b34 := b3.trans (b4.mono b3.size)
        exact b34.trans (b5.mono b34.size)
      · simp -implicitDefEqProofs [go_sem, intOf, g22, hw]; omega
    · have hk' : k = n := by omega
      subst hk'
      replace hin := hin.next b3
      simp -implicitDefEqProofs [go_sem, g0, g1, g5, g21, g22]
      refine callE_of (next_calls _ c w3 hT) ?_
      rintro v w4 ⟨rfl, b4⟩
      have bel4 := bel3.trans (b4.mono bel3.size)
      replace hT := hT.next b4
      replace hin := hin.next b4
      rw [hnext]
      simp -implicitDefEqProofs [go_sem, g0, g1]
      refine callE_of (blocks_calls c w4) ?_
      rintro v w5 ⟨rfl, rfl⟩
      rw [hn]
      simp -implicitDefEqProofs [go_sem, g0, g1]
      refine wpE_loop (fun e' w' => ∃ (j m : Nat) (x : BitVec 64), j ≤ l.length ∧ e' 0 = .int .i64 c ∧ e' 5 = .int .u64 (uv x) ∧ e' 10 = .int .i64 m ∧ e' 50 = .slice a l.length cap ∧ e' 51 = .int .i64 l.length ∧ e' 52 = .int .i64 j ∧
        WM.rB x = true ∧ (WM.cR x = 0 ∨ (WM.cR x : Int) = c) ∧ WM.cnt (WM.tR x) 16 = m ∧ Below w5.heap.size w5 w') (fun e' _ => l.length - (intOf (e' 52)).toNat) ?_ ?_
      · refine ⟨0, k, fillW c k, by omega, ?_⟩
        simp -implicitDefEqProofs [go_sem, g0, g5]
        exact ⟨hrb, hcr, hcnt, Below.refl _ _⟩
      · rintro e'' w6 ⟨j, m, x, hj, f0, f5, f10, f50, f51, f52, hxb, hxc, hxm, b6⟩
        have bel6 := bel4.trans (b6.mono bel4.size)
        have hT6 := hT.next b6
        have hm16 : m ≤ 16 := by rw [← hxm]; exact WM.cnt_le _ _
        by_cases hltj : j < l.length
        · obtain ⟨ba, oa, rfl, ga⟩ := (hin.next b6).at_.cellD (i := j) hltj
          have hltj' : (j : Int) < l.length := by omega
          have hw := IntWalk.i64_in ((j : Int) + 1) (by omega)
          generalize l.getD j 0#8 = z at *
          obtain ⟨q, hq⟩ : ∃ q : Nat, uv (z % 16#8) = q := ⟨_, rfl⟩
          have hq16 : q < 16 := by
            have h : (z % 16#8).toNat < 16 := by
              rw [BitVec.toNat_umod]; exact Nat.mod_lt _ (by decide)
            unfold uv at hq; omega
          have hwq := IntWalk.i64_in (q : Int) (by omega)
          simp -implicitDefEqProofs [go_sem, f0, f5, f10, f50, f51, f52, hltj, hltj', ga, hq, hwq]
          refine callE_of (drop_calls x q w6) ?_
          rintro v w7 ⟨rfl, b7⟩
          have bel7 := b6.trans (b7.mono b6.size)
          simp -implicitDefEqProofs [go_sem, f0, f5, f10, f50, f51, f52, hq, hwq]
          refine callE_of (has_calls' x q w7) ?_
          rintro v w8 ⟨rfl, b8⟩
          have bel8 := bel7.trans (b8.mono bel7.size)
          have hT8 := (hT6.next b7).next b8
          cases hh : WM.hasM x q
          · simp -implicitDefEqProofs [go_sem, f0, f5, f10, f50, f51, f52, hw]
            refine goE_round ⟨j + 1, m, x, by omega, ?_⟩ ?_
            · simp -implicitDefEqProofs [go_sem, f0, f5, f10, f50, f51]
              exact ⟨hxb, hxc, hxm, bel8⟩
            · simp -implicitDefEqProofs [go_sem, intOf, f52, hw]; omega
          · obtain ⟨d1, d2, d3, d4, d5⟩ := drop_state (c := WM.cR x) hxb (.inr rfl) hq16 hh
            have hwm := IntWalk.i64_in ((m - 1 : Nat) : Int) (by omega)
            have hm1 : ((m : Int) - 1) = ((m - 1 : Nat) : Int) := by omega
            have hcx : (WM.cR x : Int) = c := by
              rcases hxc with h | h
              · rw [h] at d5; simp [WM.bl] at d5
              · exact h
            have hnl := next_le (c := WM.cR x) q d3 d1
            have hnl' : WM.nextM (WM.dropW x q) c ≤ q := by
              rw [← hcx]; rcases hnl with h | h
              · exact h
              · omega
            have hnl2 : ¬ (q : Int) < WM.nextM (WM.dropW x q) c := by omega
            have d2' : WM.cR (WM.dropW x q) = 0 ∨ (WM.cR (WM.dropW x q) : Int) = c := by omega
            by_cases hm0 : 0 < m - 1
            · have hm0' : (0 : Int) < ((m - 1 : Nat) : Int) := by omega
              simp -implicitDefEqProofs [go_sem, f0, f5, f10, f50, f51, f52, hwm, hm1, hm0, hm0', hq, hwq]
              refine callE_of (next_calls _ c w8 hT8) ?_
              rintro v w9 ⟨rfl, b9⟩
              simp -implicitDefEqProofs [go_sem, f0, f5, f10, f50, f51, f52, hq, hwq, hnl2, hw]
              refine goE_round ⟨j + 1, m - 1, WM.dropW x q, by omega, ?_⟩ ?_
              · simp -implicitDefEqProofs [go_sem, f0, f50, f51]
                exact ⟨d1, d2', by omega, bel8.trans (b9.mono bel8.size)⟩
              · simp -implicitDefEqProofs [go_sem, intOf, f52, hw]; omega
            · have hm0' : ¬ (0 : Int) < ((m - 1 : Nat) : Int) := by omega
              simp -implicitDefEqProofs [go_sem, f0, f5, f10, f50, f51, f52, hwm, hm1, hm0, hm0', hq, hwq, hw]
              refine goE_round ⟨j + 1, m - 1, WM.dropW x q, by omega, ?_⟩ ?_
              · simp -implicitDefEqProofs [go_sem, f0, f50, f51]
                exact ⟨d1, d2', by omega, bel8⟩
              · simp -implicitDefEqProofs [go_sem, intOf, f52, hw]; omega
        · have hj' : j = l.length := by omega
          subst hj'
          have hzi := zero_iff hxb
          have hll : (WM.listM x).length = m := by rw [WM.list_len, hxm]
          simp -implicitDefEqProofs [go_sem, f0, f5, f10, f50, f51, f52]
          refine callE_of (list_calls x w6) ?_
          rintro v w7 ⟨a7, c7, rfl, _, b7⟩
          have e1 : (x == 0#64) = decide (m = 0) := by
            rw [Bool.eq_iff_iff, beq_iff_eq, decide_eq_true_iff, hzi, hxm]
          have e2 : ((m : Int) == 0) = decide (m = 0) := by
            rw [Bool.eq_iff_iff, beq_iff_eq, decide_eq_true_iff]; omega
          simp -implicitDefEqProofs [go_sem, f5, f10, hll, e1, e2]
          refine body_tmp 4 rfl ?_
          simp -implicitDefEqProofs [go_sem]
          exact bel6.trans (b7.mono bel6.size)
end Go.Proofs.YtcaekgkogiggoaaDoor
