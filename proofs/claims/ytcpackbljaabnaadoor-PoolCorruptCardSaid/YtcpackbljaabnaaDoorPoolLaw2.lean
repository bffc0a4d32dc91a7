/- PoolCorrupt: its walk. -/
import Derived.Test.YtcpackbljaabnaaDoorPoolLaw1
import Derived.Test.YtcpackbljaabnaaDoorPoolTurned
import Derived.Test.YtcpackbljaabnaaDoorSlabW
namespace Go.Proofs.YtcpackbljaabnaaDoor
set_option linter.unusedVariables false
set_option linter.unusedSimpArgs false
set_option maxRecDepth 100000
open Go Go.RowKit

set_option maxHeartbeats 8000000 in
theorem poolCorrupt_walk (x0 x1 : BitVec 8) (x2 : BitVec 64) (w0 : World) (hF : Fours w0) (hT : Tabs w0) :
    Ret Tryd.prog 4 #[.int .u8 (uv x0), .int .u8 (uv x1), .int .u64 (uv x2)] w0 fun v w' => v = .bool true ∧ Below w0.heap.size w0 w' := by
  have bel0 := Below.refl w0.heap.size w0
  obtain ⟨m, hm⟩ : ∃ m, m = 1 + x0.toNat % 4 := ⟨_, rfl⟩
  have hm4 : 1 ≤ m ∧ m ≤ 4 := by omega
  obtain ⟨L, hL⟩ : ∃ L : Int, L = ((3 + 16 * m : Nat) : Int) := ⟨_, rfl⟩
  have hlines : ∀ w, Ret Tryd.prog 11 #[.int .u8 (uv x0)] w fun v w' => v = .int .i64 L ∧ w' = w := fun w => by
    have := poolLines_calls x0 w
    rw [← hm, ← hL] at this; exact this
  have hbegin : ∀ w, Fours w → Ret Tryd.prog 10 #[.int .i64 L] w fun v w' => ∃ p b tb tc hb hc F, v = .tuple #[.pointer (some ⟨p, 0, none⟩), .pointer (some ⟨b, 0, none⟩)] ∧
      PD w' b p (shN m) (List.replicate m 0#64) (List.replicate m 0#64) tb tc hb hc F (begD m) ∧ Below w.heap.size w w' ∧ (∀ k, PdK b tb hb F k → w.heap.size ≤ k) := fun w h => by
    have := begin_calls m hm4 w h
    rw [← hL] at this; exact this
  refine ret_of (args := [_, _, _]) _ Tryd.func4 rfl Tryd.ntmps4 (by simp) ?_
  simp -implicitDefEqProofs [go_sem]
  refine callE_of (poolAlive_calls w0 hF hT) ?_
  rintro v w1 ⟨rfl, b1⟩
  have bel1 := bel0.trans (b1.mono bel0.size)
  simp -implicitDefEqProofs [go_sem]
  refine callE_of (hlines w1) ?_
  rintro v w2 ⟨rfl, rfl⟩
  simp -implicitDefEqProofs [go_sem]
  refine callE_of (hbegin w2 (hF.next bel1)) ?_
  rintro v w3 ⟨p, b, tb, tc, hb, hc, F, rfl, hPD, b3, hge⟩
  have bel3 := bel1.trans (b3.mono bel1.size)
  simp -implicitDefEqProofs [go_sem]
  refine callE_of (poolShape_calls w3 hPD.pool) ?_
  rintro v w4 ⟨rfl, b4⟩
  have bel4 := bel3.trans (b4.mono bel3.size)
  have hPD4 := hPD.next b4
  simp -implicitDefEqProofs [go_sem, ↓stShape (shN m)]
  generalize hw5 : World.alloc w4 _ = w5 at *
  obtain ⟨hB5, b5, sz5⟩ := new_facts hw5
  have bel5 := bel4.trans (b5.mono bel4.size)
  replace hPD4 := hPD4.next b5
  refine drawE_mix [.pure 0, .pure 1, .pure 3, .pure 5, .pure 10, .take 2, .take 4, .run 6 [2, 4], .pure 7, .pure 8, .pure 9, .run 11 [], .pure 12] mixed (by decide +kernel) (by simp only [withOps, MStep.num, List.filterMap_cons, List.filterMap_nil, List.getElem?_cons_succ, List.getElem?_cons_zero, Option.map_some]; rfl) ?_
  have hPD6 := hPD4.next (Below.refl _ _).drew
  have hB6 := hB5.next (Below.refl _ _).drew
  have bel6 := bel5.drew
  generalize World.drew w5 = w6 at *
  obtain ⟨n1, hn1⟩ : ∃ n : Nat, n = x1.toNat := ⟨_, rfl⟩
  have hu1 : uv x1 = (n1 : Int) := by unfold uv; rw [hn1]
  have hx1 : n1 < 256 := by rw [hn1]; exact x1.isLt
  have k1 := IntWalk.i64_in (n1 : Int) (by omega)
  simp -implicitDefEqProofs [go_sem]
  refine onTake_of (fun w' => Below w6.heap.size w6 w') (.int .i64 128) (Below.refl _ _) (fun w' hw => by simp -implicitDefEqProofs [go_sem, (hB6.next hw).cell, shapeC_2, shN]) ?_
  simp -implicitDefEqProofs [go_sem]
  refine onTake_of (fun w' => Below w6.heap.size w6 w') (.int .i64 (n1 : Int)) (Below.refl _ _) (fun w' hw => by simp -implicitDefEqProofs [go_sem, hu1, k1]) ?_
  obtain ⟨j, hj⟩ : ∃ j : Nat, j = n1 % m := ⟨_, rfl⟩
  have hjm : j < m := by rw [hj]; exact Nat.mod_lt _ (by omega)
  have kt : (n1 : Int).tmod (m : Int) = (j : Int) := by rw [hj, Int.tmod_eq_emod_of_nonneg (by omega)]; omega
  have k2 := IntWalk.i64_in (j : Int) (by omega)
  have k3 := IntWalk.i64_in (8 * (j : Int)) (by omega)
  have k4 := IntWalk.i64_in (128 + 8 * (j : Int)) (by omega)
  have hst := beg_small (m := m) (by omega)
  have hstore := storeB (128 + 8 * (j : Int)) x2 w6 hPD6.dev (by unfold I64; omega) (by omega)
  rw [show 128 + 8 * (j : Int) = ((128 + 8 * j : Nat) : Int) by omega] at hstore
  obtain ⟨t1, t2, t3, t4⟩ := beg_turned hm4 hjm x2
  have hm0 : ¬ m = 0 := by omega
  simp -implicitDefEqProofs [go_sem, hB6.cell, shapeC_1, shN, kt, hm0, k2, k3, k4]
  rw [show 128 + 8 * (j : Int) = ((128 + 8 * j : Nat) : Int) by omega]
  refine callE_of hstore ?_
  rw [t1]
  rintro v w7 ⟨rfl, F7, hD7, t7⟩
  refine ⟨.inr ?_, ?_⟩
  · simp -implicitDefEqProofs [go_sem]
  have hge6 : ∀ k, F k → w0.heap.size ≤ k := fun k hk => Nat.le_trans bel1.size (hge k (.inl hk))
  have bel7 : Below w0.heap.size w0 w7 := bel6.trans (t7.mod.below bel6.size hge6)
  have hge7 : ∀ k, F7 k → w0.heap.size ≤ k := t7.ge bel6.size hge6
  generalize hE : ((begD m).store ((128 + 8 * j : Nat) : Int) x2).1 = E at *
  have hOpen : Ret Tryd.prog 18 #[.pointer (some ⟨p, 0, none⟩)] w7 fun v w' => ∃ qv e, v = .tuple #[.pointer qv, .int .i64 e] ∧ Below w7.heap.size w7 w' ∧
      ((WM.rB x2 = true ∧ e = 0 ∧ ∃ q : Nat, qv = some ⟨q, 0, none⟩) ∨ (WM.rB x2 = false ∧ e = 5 ∧ qv = none)) := by
    refine (poolOpen_calls m w7 hD7 (hF.next bel7) (by omega) (fun _ => by rw [t3]; exact ⟨rfl, rfl⟩)).mono ?_
    intro v w' hO
    unfold OpenP at hO
    rw [t3, t4, ← WM.rB_eq] at hO
    rcases hO with ⟨h, _⟩ | ⟨_, ⟨e, h, rfl, hb'⟩ | ⟨h, q, ta, tac, ha, hac, rfl, hQ, hb', hgq⟩⟩
    · exact absurd rfl h
    · refine ⟨_, _, rfl, hb', .inr ?_⟩
      cases hr : WM.rB x2 with
      | true => rw [hr] at h; cases h
      | false => rw [hr] at h; cases h; exact ⟨rfl, rfl, rfl⟩
    · refine ⟨_, _, rfl, hb', .inl ?_⟩
      cases hr : WM.rB x2 with
      | true => exact ⟨rfl, rfl, q, rfl⟩
      | false => rw [hr] at h; cases h
  have hL64 : I64 L := by unfold I64; omega
  simp -implicitDefEqProofs [go_sem]
  refine callE_of hOpen ?_
  rintro v w8 ⟨qv, e, rfl, b8, hcase⟩
  have bel8 := bel7.trans (b8.mono bel7.size)
  simp -implicitDefEqProofs [go_sem]
  refine callE_of (of_calls x2 w8) ?_
  rintro v w9 ⟨rfl, b9⟩
  have bel9 := bel8.trans (b9.mono bel8.size)
  simp -implicitDefEqProofs [go_sem, ↓stSlab (WM.cR x2) (WM.tR x2)]
  generalize hw10 : World.alloc w9 _ = w10 at *
  obtain ⟨hB10, b10, sz10⟩ := new_facts hw10
  have bel10 := bel9.trans (b10.mono bel9.size)
  refine callE_of (hlines w10) ?_
  rintro v w11 ⟨rfl, rfl⟩
  simp -implicitDefEqProofs [go_sem]
  refine callE_of (newB L w11 hL64) ?_
  rintro v w12 ⟨b12, ⟨h, _⟩ | ⟨_, p2, F2, rfl, hd2, _⟩⟩
  · exact absurd ⟨by omega, by omega⟩ h
  have bel12 := bel10.trans (b12.mono bel10.size)
  have hOpen2 : Ret Tryd.prog 18 #[.pointer (some ⟨p2, 0, none⟩)] w12 fun v w' => v = .tuple #[.pointer none, .int .i64 5] ∧ Below w12.heap.size w12 w' := by
    have h5 := NM.open_dev0 L.toNat (by omega)
    refine (poolOpen_calls m w12 hd2 (hF.next bel12) (by omega) (fun h => by rw [h5] at h; cases h)).mono ?_
    intro v w' hO
    unfold OpenP at hO
    rw [h5] at hO
    rcases hO with ⟨_, rfl, hb'⟩ | ⟨h, _⟩
    · exact ⟨rfl, hb'⟩
    · cases h
  simp -implicitDefEqProofs [go_sem]
  refine callE_of hOpen2 ?_
  rintro v w13 ⟨rfl, b13⟩
  have bel13 := bel12.trans (b13.mono bel12.size)
  simp -implicitDefEqProofs [go_sem]
  refine callE_of (poolOpenN_calls w13) ?_
  rintro v w14 ⟨rfl, b14⟩
  have bel14 := bel13.trans (b14.mono bel13.size)
  rcases hcase with ⟨hr, rfl, q, rfl⟩ | ⟨hr, rfl, rfl⟩
  · simp -implicitDefEqProofs [go_sem, hr]
    refine body_tmp 6 rfl ?_
    simp -implicitDefEqProofs [go_sem]
    exact bel14
  · simp -implicitDefEqProofs [go_sem, hr]
    refine body_tmp 6 rfl ?_
    simp -implicitDefEqProofs [go_sem]
    exact bel14
end Go.Proofs.YtcpackbljaabnaaDoor
