/- PoolFills: its walk. -/
import Derived.Test.YtcpackbljaabnaaDoorPoolLaw1
import Derived.Test.YtcpackbljaabnaaDoorPoolFill0
namespace Go.Proofs.YtcpackbljaabnaaDoor
set_option linter.unusedVariables false
set_option linter.unusedSimpArgs false
set_option maxRecDepth 100000
open Go Go.RowKit

theorem beginL {m : Nat} {L : Int} (hm : 1 ≤ m ∧ m ≤ 4) (hL : L = ((3 + 16 * m : Nat) : Int)) (w : World) (h : Fours w) : Ret Tryd.prog 10 #[.int .i64 L] w fun v w' => ∃ p b tb tc hb hc F, v = .tuple #[.pointer (some ⟨p, 0, none⟩), .pointer (some ⟨b, 0, none⟩)] ∧
      PD w' b p (shN m) (zL m) (zL m) tb tc hb hc F (begD m) ∧ Below w.heap.size w w' ∧ (∀ k, PdK b tb hb F k → w.heap.size ≤ k) := by
  have := begin_calls m hm w h
  rw [← hL] at this; exact this
theorem linesL {x0 : BitVec 8} {m : Nat} {L : Int} (hm : m = 1 + x0.toNat % 4) (hL : L = ((3 + 16 * m : Nat) : Int)) (w : World) : Ret Tryd.prog 11 #[.int .u8 (uv x0)] w fun v w' => v = .int .i64 L ∧ w' = w := by
  have := poolLines_calls x0 w
  rw [← hm, ← hL] at this; exact this
set_option maxHeartbeats 8000000 in
theorem poolFills_walk (x0 : BitVec 8) (a1 : Option Addr) (l1 : List (BitVec 8)) (cap1 : Nat) (w0 : World) (hF : Fours w0) (hT : Tabs w0) (in1 : SlIn .u8 w0 a1 l1 cap1) :
    Ret Tryd.prog 6 #[.int .u8 (uv x0), .slice a1 l1.length cap1] w0 fun v w' => v = .bool true ∧ Below w0.heap.size w0 w' := by
  have bel0 := Below.refl w0.heap.size w0
  obtain ⟨m, hm⟩ : ∃ m, m = 1 + x0.toNat % 4 := ⟨_, rfl⟩
  have hm4 : 1 ≤ m ∧ m ≤ 4 := by omega
  obtain ⟨L, hL⟩ : ∃ L : Int, L = ((3 + 16 * m : Nat) : Int) := ⟨_, rfl⟩
  have hdat : 0 ≤ (shN m).data ∧ (shN m).data ≤ 1000000 := ⟨show (0 : Int) ≤ 192 by decide, show (192 : Int) ≤ 1000000 by decide⟩
  refine ret_of (args := [_, _]) _ Tryd.func6 rfl Tryd.ntmps6 (by simp) ?_
  simp -implicitDefEqProofs [go_sem]
  refine callE_of (poolAlive_calls w0 hF hT) ?_
  rintro v w1 ⟨rfl, b1⟩
  have bel1 := bel0.trans (b1.mono bel0.size)
  by_cases h100 : (100 : Int) < l1.length
  · simp -implicitDefEqProofs [go_sem, h100]
    refine body_tmp 4 rfl ?_
    simp -implicitDefEqProofs [go_sem]
    exact bel1
  simp -implicitDefEqProofs [go_sem, h100]
  refine callE_of (linesL hm hL w1) ?_
  rintro v w2 ⟨rfl, rfl⟩
  simp -implicitDefEqProofs [go_sem]
  refine callE_of (beginL hm4 hL w2 (hF.next bel1)) ?_
  rintro v w3 ⟨p, b, tb, tc, hb, hc, F, rfl, hPD, b3, hge⟩
  have bel3 := bel1.trans (b3.mono bel1.size)
  simp -implicitDefEqProofs [go_sem]
  refine callE_of (poolShape_calls w3 hPD.pool) ?_
  rintro v w4 ⟨rfl, b4⟩
  have bel4 := bel3.trans (b4.mono bel3.size)
  have hPD4 := hPD.next b4
  have hlt4 := hPD4.lt
  simp -implicitDefEqProofs [go_sem, ↓stShape (shN m)]
  generalize hw5 : World.alloc w4 _ = w5 at *
  obtain ⟨hB5, b5, sz5⟩ := new_facts hw5
  have bel5 := bel4.trans (b5.mono bel4.size)
  replace hPD4 := hPD4.next b5
  obtain ⟨M, hM⟩ : ∃ M : Nat, M = 16 * m := ⟨_, rfl⟩
  have eM : 16 * (m : Int) = (M : Int) := by omega
  have kM := IntWalk.i64_in (M : Int) (by omega)
  simp -implicitDefEqProofs [go_sem, hB5.cell, shapeC_1, shN, kM, eM]
  have hz : fullL m 0 = zL m := (full_none (D := begD m) hm4.2).2.2
  obtain ⟨gs, hgs⟩ : ∃ g, g = w4.heap.size := ⟨_, rfl⟩
  rw [← hgs] at hB5 ⊢
  have hge4 : ∀ k, PdK b tb hb F k → w0.heap.size ≤ k := fun k hk => Nat.le_trans bel1.size (hge k hk)
  have hgsF : ¬ PdK b tb hb F gs := fun h => by have := hlt4 gs h; omega
  refine wpE_loop (fun e' w' => ∃ k : Nat, k ≤ M ∧ e' 1 = .slice a1 l1.length cap1 ∧ e' 6 = .pointer (some ⟨b, 0, none⟩) ∧ e' 7 = .pointer (some ⟨gs, 0, none⟩) ∧ e' 35 = .int .i64 (M : Int) ∧ e' 36 = .int .i64 (k : Int) ∧
    PD w' b p (shN m) (zL m) (fullL m k) tb tc hb hc F (begD m) ∧ Blk w' gs (shapeC (shN m)) 39 ∧ Below w0.heap.size w0 w') (fun e' _ => M - (intOf (e' 36)).toNat) ?_ ?_
  · refine ⟨0, by omega, ?_⟩
    simp -implicitDefEqProofs [go_sem]
    rw [hz]
    exact ⟨hPD4, hB5, bel5⟩
  · rintro e' w6 ⟨k, hk, g1, g6, g7, g35, g36, hPD6, hB6, bel6⟩
    by_cases hlt : k < M
    · have hlt' : (k : Int) < M := by omega
      have k1 := IntWalk.i64_in ((k : Int) + 1) (by omega)
      have k2 := IntWalk.i64_in (64 * (k : Int)) (by omega)
      have k3 := IntWalk.i64_in (192 + 64 * (k : Int)) (by omega)
      have hres := poolReserve_calls ⟨zL m, fullL m k, begD m⟩ 1 (.inl rfl) w6 hPD6 (hT.next bel6) (show (zL m).length ≤ 64 by rw [zL_len]; omega) hdat
      rw [fill_res hm4.2 (by omega)] at hres
      simp -implicitDefEqProofs [go_sem, g1, g6, g7, g35, g36, hlt, hlt']
      refine callE_of hres ?_
      rintro v w7 ⟨rfl, hPD7, t7⟩
      have hPD7 : PD w7 b p (shN m) (zL m) (fullL m (k + 1)) tb tc hb hc F (begD m) := hPD7
      have hB7 := hB6.mod t7.mod hgsF
      have bel7 := bel6.trans (t7.mod.below bel6.size hge4)
      rw [show (192 + 64 * k : Nat) = (192 + 64 * (k : Int) : Int) by omega]
      simp -implicitDefEqProofs [go_sem, g1, g6, g7, g35, g36, hB7.cell, shapeC_3, shN, k1, k2, k3]
      refine goE_round ⟨k + 1, by omega, ?_⟩ ?_
      · simp -implicitDefEqProofs [go_sem, g1, g6, g7, g35]
        exact ⟨hPD7, hB7, bel7⟩
      · simp -implicitDefEqProofs [go_sem, intOf, g36, k1]; omega
    · have hk' : k = M := by omega
      rw [hk', hM] at hPD6
      simp -implicitDefEqProofs [go_sem, g1, g6, g7, g35, g36, hk']
      refine wpE_loop (fun e2 w' => ∃ (i : Nat) (F : Nat → Prop), i ≤ l1.length ∧ e2 6 = .pointer (some ⟨b, 0, none⟩) ∧ e2 7 = .pointer (some ⟨gs, 0, none⟩) ∧ e2 56 = .slice a1 l1.length cap1 ∧ e2 57 = .int .i64 (l1.length : Int) ∧ e2 58 = .int .i64 (i : Int) ∧
        PD w' b p (shN m) (zL m) (fullL m (16 * m)) tb tc hb hc F (begD m) ∧ Blk w' gs (shapeC (shN m)) 39 ∧ Below w0.heap.size w0 w' ∧ (∀ k, PdK b tb hb F k → w0.heap.size ≤ k) ∧ ¬ PdK b tb hb F gs) (fun e2 _ => l1.length - (intOf (e2 58)).toNat) ?_ ?_
      · refine ⟨0, F, by omega, ?_⟩
        simp -implicitDefEqProofs [go_sem, g6, g7]
        exact ⟨hPD6, hB6, bel6, hge4, hgsF⟩
      · clear hPD hPD4 hge hlt4 hge4 hgsF hPD6 hB6 bel6
        rintro e2 w7 ⟨i, F, hi, q6, q7, q56, q57, q58, hPD7, hB7, bel7, hge4, hgsF⟩
        obtain ⟨hf1, hf2, hf3⟩ := full_none (D := begD m) (m := m) hm4.2
        by_cases hil : i < l1.length
        · have hil' : (i : Int) < l1.length := by omega
          have r1 := IntWalk.i64_in ((i : Int) + 1) (by omega)
          obtain ⟨ba, oa, rfl, gc⟩ := (in1.next bel7).at_.cell hil
          obtain ⟨n1, hn1⟩ : ∃ n : Nat, n = l1[i].toNat := ⟨_, rfl⟩
          have hu1 : uv l1[i] = (n1 : Int) := by unfold uv; rw [hn1]
          have hx1 : n1 < 256 := by rw [hn1]; exact l1[i].isLt
          rw [hu1] at gc
          have hres := poolReserve_calls ⟨zL m, fullL m (16 * m), begD m⟩ 1 (.inl rfl) w7 hPD7 (hT.next bel7) (show (zL m).length ≤ 64 by rw [zL_len]; omega) hdat
          rw [hf1] at hres
          simp -implicitDefEqProofs [go_sem, q6, q7, q56, q57, q58, hil, hil', gc]
          refine callE_of hres ?_
          rintro v w8 ⟨rfl, hPD8, t8⟩
          have hPD8 : PD w8 b p (shN m) (zL m) (fullL m (16 * m)) tb tc hb hc F (begD m) := hPD8
          have hB8 := hB7.mod t8.mod hgsF
          have bel8 := bel7.trans (t8.mod.below bel7.size hge4)
          simp -implicitDefEqProofs [go_sem, q6, q7, q56, q57, q58]
          refine drawE_still mixed (by decide +kernel) ?_
          have hB9 := hB8.next (Below.refl _ _).drew
          have hPD9 := hPD8.next (Below.refl _ _).drew
          have bel9 := bel8.drew
          generalize World.drew w8 = w9 at *
          obtain ⟨j, hj⟩ : ∃ j : Nat, j = n1 % M := ⟨_, rfl⟩
          have hjm : j < M := by rw [hj]; exact Nat.mod_lt _ (by omega)
          have kt : (n1 : Int).tmod (M : Int) = (j : Int) := by rw [hj, Int.tmod_eq_emod_of_nonneg (by omega)]; omega
          have hM0 : ¬ M = 0 := by omega
          have r2 := IntWalk.i64_in (n1 : Int) (by omega)
          have r3 := IntWalk.i64_in (j : Int) (by omega)
          have r4 := IntWalk.i64_in (64 * (j : Int)) (by omega)
          have r5 := IntWalk.i64_in (192 + 64 * (j : Int)) (by omega)
          simp -implicitDefEqProofs [go_sem, q6, q7, hB9.cell, shapeC_1, shapeC_3, shN, eM, kM, kt, hM0, r2, r3, r4, r5]
          unfold endE
          simp -implicitDefEqProofs [go_sem]
          refine drawE_mix [.pure 0, .pure 1, .run 2 [], .pure 3, .pure 4, .pure 5, .pure 7, .take 8, .pure 9, .pure 10, .run 6 [8], .pure 11, .pure 12] mixed (by decide +kernel) (by simp only [withOps, MStep.num, List.filterMap_cons, List.filterMap_nil, List.getElem?_cons_succ, List.getElem?_cons_zero, Option.map_some]; rfl) ?_
          have hB10 := hB9.next (Below.refl _ _).drew
          have hPD10 := hPD9.next (Below.refl _ _).drew
          have bel10 := bel9.drew
          generalize World.drew w9 = w10 at *
          have hst := beg_small (m := m) (by omega)
          obtain ⟨la1, la2, la3⟩ := less_all (D := begD m) (m := m) (k := j) hm4.2 (by omega)
          have hdrop := poolDrop_calls ⟨zL m, fullL m (16 * m), begD m⟩ ((192 + 64 * j : Nat) : Int) w10 hPD10 rfl (show (zL m).length ≤ 64 by rw [zL_len]; omega) (show (begD m).steps + 3 < 1099511627776 by omega) (by unfold I64; omega) hdat
          rw [la1] at hdrop
          rw [show ((192 + 64 * j : Nat) : Int) = 192 + 64 * (j : Int) by omega] at hdrop
          simp -implicitDefEqProofs [go_sem, q6, q7]
          refine callE_of hdrop ?_
          rintro v w11 ⟨rfl, F11, hPD11, t11⟩
          have hPD11 : PD w11 b p (shN m) (zL m) (lessL m j) tb tc hb hc F11 (begD m) := hPD11
          have hB11 := hB10.mod t11.mod hgsF
          have bel11 := bel10.trans (t11.mod.below bel10.size hge4)
          have hge11 := t11.ge bel10.size hge4
          have hgs11 : ¬ PdK b tb hb F11 gs := fun h => by
            rcases t11.new gs h with h | h
            · exact hgsF h
            · have := hB10.lt; omega
          refine ⟨.inr (by simp -implicitDefEqProofs [go_sem]), ?_⟩
          simp -implicitDefEqProofs [go_sem, q6, q7]
          refine onTake_of (fun w' => Below w11.heap.size w11 w') (.int .i64 (m : Int)) (Below.refl _ _) (fun w' hw => by simp -implicitDefEqProofs [go_sem, (hB11.next hw).cell, shapeC_1, shN]) ?_
          have hheld : Ret Tryd.prog 23 #[.pointer (some ⟨b, 0, none⟩)] w11 fun v w' => v = .int .i64 ((M : Int) - 1) ∧ Below w11.heap.size w11 w' := by
            refine (poolHeld_calls w11 hPD11.pool (by rw [zL_len]; omega)).mono ?_
            rintro v w' ⟨rfl, h⟩
            refine ⟨?_, h⟩
            rw [lessL_len]
            congr 1; omega
          have r6 := IntWalk.i64_in ((M : Int) - 1) (by omega)
          simp -implicitDefEqProofs [go_sem, q6, q7]
          refine callE_of hheld ?_
          rintro v w12 ⟨rfl, b12⟩
          refine ⟨.inr (by simp -implicitDefEqProofs [go_sem]; exact b12), ?_⟩
          simp -implicitDefEqProofs [go_sem, q6, q7, eM, kM, r6]
          have hPD12 := hPD11.next b12
          have hB12 := hB11.next b12
          have bel12 := bel11.trans (b12.mono bel11.size)
          have hres2 := poolReserve_calls ⟨zL m, lessL m j, begD m⟩ 1 (.inl rfl) w12 hPD12 (hT.next bel12) (show (zL m).length ≤ 64 by rw [zL_len]; omega) hdat
          rw [la3] at hres2
          rw [show ((192 + 64 * j : Nat) : Int) = 192 + 64 * (j : Int) by omega] at hres2
          refine callE_of hres2 ?_
          rintro v w13 ⟨rfl, hPD13, t13⟩
          have hPD13 : PD w13 b p (shN m) (zL m) (fullL m (16 * m)) tb tc hb hc F11 (begD m) := hPD13
          simp -implicitDefEqProofs [go_sem, q6, q7, q56, q57, q58, r1]
          refine goE_round ⟨i + 1, F11, by omega, ?_⟩ ?_
          · simp -implicitDefEqProofs [go_sem, q6, q7, q56, q57]
            exact ⟨hPD13, hB12.mod t13.mod hgs11, bel12.trans (t13.mod.below bel12.size hge11), hge11, hgs11⟩
          · simp -implicitDefEqProofs [go_sem, intOf, q58, r1]; omega
        · have hi' : i = l1.length := by omega
          simp -implicitDefEqProofs [go_sem, q6, q7, q56, q57, q58, hi']
          have hall : Ret Tryd.prog 22 #[.pointer (some ⟨b, 0, none⟩)] w7 fun v w' => ∃ a c, v = .slice a 0 c ∧ Below w7.heap.size w7 w' := by
            refine (poolAll_calls w7 hPD7.pool (by rw [zL_len]; omega) hdat).mono ?_
            rintro v w' ⟨a, c, rfl, hv, hb'⟩
            rw [zL_len, hf2]
            exact ⟨a, c, rfl, hb'⟩
          refine callE_of hall ?_
          rintro v w8 ⟨a8, c8, rfl, b8⟩
          simp -implicitDefEqProofs [go_sem]
          refine body_tmp 4 rfl ?_
          simp -implicitDefEqProofs [go_sem]
          exact bel7.trans (b8.mono bel7.size)
end Go.Proofs.YtcpackbljaabnaaDoor
