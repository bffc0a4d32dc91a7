/- PoolDurable: its walk. -/
import Derived.Test.YtcpackbljaabnaaDoorPoolTold
namespace Go.Proofs.YtcpackbljaabnaaDoor
set_option linter.unusedVariables false
set_option linter.unusedSimpArgs false
set_option maxRecDepth 100000
open Go Go.RowKit

set_option maxHeartbeats 2000000 in
theorem poolDurable_walk (a0 : Option Addr) (l0 : List PAct) (cap0 : Nat) (A1 : PAct) (x2 : BitVec 8) (a2 : Option Addr) (l2 : List (BitVec 8)) (cap2 : Nat) (w0 : World) (hF : Fours w0) (hT : Tabs w0) (in0 : PActsIn w0 a0 l0 cap0) (in2 : SlIn .u8 w0 a2 l2 cap2) (hA1 : I64 A1.at_) :
    Ret Tryd.prog 8 #[.slice a0 l0.length cap0, .agg A1.cs, .agg #[.int .u8 (uv x2), .slice a2 l2.length cap2]] w0 fun v w' => v = .bool true ∧ Below w0.heap.size w0 w' := by
  have bel0 := Below.refl w0.heap.size w0
  have hm4 : 1 ≤ 2 ∧ 2 ≤ 4 := by decide
  have hdat := dat_ok 2
  refine ret_of (args := [_, _, _]) _ Tryd.func8 rfl Tryd.ntmps8 (by simp) ?_
  simp -implicitDefEqProofs [go_sem]
  generalize hw1 : World.alloc w0 _ = w1 at *
  obtain ⟨hB1, b1, sz1⟩ := new_facts hw1
  have bel1 := bel0.trans (b1.mono bel0.size)
  generalize hw2 : World.alloc w1 _ = w2 at *
  obtain ⟨hB2, b2, sz2⟩ := new_facts hw2
  have bel2 := bel1.trans (b2.mono bel1.size)
  replace hB1 := hB1.next b2
  rw [sz1] at hB2
  refine callE_of (poolAlive_calls w2 (hF.next bel2) (hT.next bel2)) ?_
  rintro v w3 ⟨rfl, b3⟩
  have bel3 := bel2.trans (b3.mono bel2.size)
  replace hB1 := hB1.next b3
  replace hB2 := hB2.next b3
  simp -implicitDefEqProofs [go_sem]
  refine drawE_still mixed (by decide +kernel) ?_
  have hB1 := hB1.next (Below.refl _ _).drew
  have hB2 := hB2.next (Below.refl _ _).drew
  have bel3 := bel3.drew
  clear b3
  generalize World.drew w3 = w4 at *
  simp -implicitDefEqProofs [go_sem, hB2.cell]
  unfold endE
  simp -implicitDefEqProofs [go_sem]
  by_cases h120 : (120 : Int) < l0.length
  · simp -implicitDefEqProofs [go_sem, h120]
    refine body_tmp 6 rfl ?_
    simp -implicitDefEqProofs [go_sem]
    exact bel3
  by_cases h100 : (100 : Int) < l2.length
  · simp -implicitDefEqProofs [go_sem, h120, h100]
    refine body_tmp 6 rfl ?_
    simp -implicitDefEqProofs [go_sem]
    exact bel3
  simp -implicitDefEqProofs [go_sem, h120, h100]
  refine callE_of (beginL (m := 2) hm4 (L := 35) rfl w4 (hF.next bel3)) ?_
  rintro v w5 ⟨p, b, tb, tc, hb, hc, F, rfl, hPD, b5, hge⟩
  have bel5 := bel3.trans (b5.mono bel3.size)
  have hge5 : ∀ k, PdK b tb hb F k → w0.heap.size ≤ k := fun k hk => Nat.le_trans bel3.size (hge k hk)
  have hg0 := good_zero hm4
  have hB5 := hB1.next b5
  have hg4F : ¬ PdK b tb hb F w0.heap.size := fun h => by have := hge _ h; have := hB1.lt; omega
  have htl := told_nil w5 w5.heap.size (PdK b tb hb F)
  simp -implicitDefEqProofs [go_sem]
  refine wpE_loop (fun e' w' => ∃ (k : Nat) (V : PV) (F : Nat → Prop) (a : Option Addr) (n c : Nat) (xs : List Nat), k ≤ l0.length ∧ n ≤ k ∧ e' 4 = .pointer (some ⟨w0.heap.size, 0, none⟩) ∧ e' 7 = .int .u8 (uv x2) ∧ e' 8 = .slice a2 l2.length cap2 ∧ e' 9 = .pointer (some ⟨p, 0, none⟩) ∧ e' 10 = .pointer (some ⟨b, 0, none⟩) ∧ e' 11 = .slice a n c ∧
    e' 53 = .slice a0 l0.length cap0 ∧ e' 54 = .int .i64 (l0.length : Int) ∧ e' 55 = .int .i64 (k : Int) ∧
    Good 2 k V ∧ PD w' b p (shN 2) V.T V.H tb tc hb hc F V.D ∧ Told w' w5.heap.size (PdK b tb hb F) a n c xs ∧ Blk w' w0.heap.size A1.cs 32 ∧ Below w0.heap.size w0 w' ∧ w5.heap.size ≤ w'.heap.size ∧ (∀ k, PdK b tb hb F k → w0.heap.size ≤ k) ∧ ¬ PdK b tb hb F w0.heap.size) (fun e' _ => l0.length - (intOf (e' 55)).toNat) ?_ ?_
  · refine ⟨0, ⟨zL 2, zL 2, begD 2⟩, F, none, 0, 0, [], by omega, by omega, ?_⟩
    simp -implicitDefEqProofs [go_sem]
    exact ⟨hg0, hPD, htl, hB5, bel5, hge5, hg4F⟩
  · have h05 : w0.heap.size < w5.heap.size := hB5.lt
    clear hPD hge hge5 hg4F htl hg0 hB1 hB5
    rintro e' w6 ⟨k, V, F, a, n, c, xs, hk, hnk, g4, g7, g8, g9, g10, g11, g53, g54, g55, hg, hPD, htl, hB, bel6, hsz, hge, hgF⟩
    have hn : V.T.length ≤ 64 := by rw [hg.well.len]; omega
    have hstp := hg.steps
    by_cases hlt : k < l0.length
    · have hlt' : (k : Int) < l0.length := by omega
      have k1 := IntWalk.i64_in ((k : Int) + 1) (by omega)
      obtain ⟨ba, oa, rfl, hcell, hoff⟩ := (in0.next bel6).get hlt
      obtain ⟨A, hA⟩ : ∃ A, A = l0[k] := ⟨_, rfl⟩
      rw [← hA] at hcell hoff
      have hld := ldCells (P := Tryd.prog) (w := w6) (g := ba) (o := oa + k * 2) (cs := A.cs) Tryd.underlying32 rfl pactI rfl hcell
      have hst := pactNew A
      have hlt6 := hPD.lt
      simp -implicitDefEqProofs [go_sem, g4, g7, g8, g9, g10, g11, g53, g54, g55, hlt, hlt', ↓hld, ↓hst]
      generalize hw7 : World.alloc w6 _ = w7 at *
      obtain ⟨hB7, b7, sz7⟩ := new_facts hw7
      have bel7 := bel6.trans (b7.mono bel6.size)
      replace hPD := hPD.next b7
      replace htl := htl.next b7
      replace hB := hB.next b7
      have hsz7 : w5.heap.size ≤ w7.heap.size := Nat.le_trans hsz b7.size
      rcases mod4_cases A.kind with hr | hr | hr | hr
      · obtain ⟨d, hd12, hdw⟩ : ∃ d : Nat, (d = 1 ∨ d = 2) ∧ IntKind.i64.wrap (1 + IntKind.i64.wrap (uv 0#8)) = (d : Int) := ⟨1, .inl rfl, by decide +kernel⟩
        have hres := poolReserve_calls V d hd12 w7 hPD (hT.next bel7) hn hdat
        simp -implicitDefEqProofs [go_sem, g4, g7, g8, g9, g10, g11, g53, g54, g55, hB7.cell, A.c0, A.c1, hr, hdw]
        refine callE_of hres ?_
        rintro v w8 ⟨rfl, hPD8, t8⟩
        have hB8 := hB.mod t8.mod hgF
        have htl8 := htl.turn t8
        have bel8 := bel7.trans (t8.mod.below bel7.size hge)
        have hg8 := hg.reserve (shN 2) hd12
        have h00 := (well_reserve (s := shN 2) hg.well hd12).2
        obtain ⟨y, hy1, hy2⟩ := res_small hg.well hm4 hd12
        obtain ⟨R, hR⟩ : ∃ R, R = reserveV (shN 2) V d := ⟨_, rfl⟩
        rw [← hR] at hPD8 hg8 h00 hy1 ⊢
        obtain ⟨V1, x, e⟩ := R
        dsimp only at hPD8 hg8 h00 hy1 ⊢
        subst hy1
        have hsz8 := Nat.le_trans hsz7 t8.size
        rcases h00 with rfl | ⟨rfl, -⟩
        · obtain ⟨gn, c9, w9, hr9, htl9, b9, K, m9, hK1, hK2⟩ := htl8.push (by omega) hsz8 (fun k hk => hPD8.lt k hk) y hy2
          simp -implicitDefEqProofs [go_sem, g4, g7, g8, g9, g10, g11, g53, g54, g55, hr9, k1]
          refine goE_round ⟨k + 1, V1, F, some ⟨gn, 0, none⟩, n + 1, c9, xs ++ [y], by omega, by omega, ?_⟩ ?_
          · simp -implicitDefEqProofs [go_sem, g4, g7, g8, g9, g10, g11, g53, g54, g55]
            exact ⟨hg8.mono (by omega), hPD8.mod m9 hK1, htl9, hB8.mod m9 (fun h => by have := hK2 _ h; omega), bel8.trans (b9.mono bel5.size), Nat.le_trans hsz8 m9.size, hge, hgF⟩
          · simp -implicitDefEqProofs [go_sem, intOf, g55, k1]; omega
        · simp -implicitDefEqProofs [go_sem, g4, g7, g8, g9, g10, g11, g53, g54, g55, k1]
          refine goE_round ⟨k + 1, V1, F, a, n, c, xs, by omega, by omega, ?_⟩ ?_
          · simp -implicitDefEqProofs [go_sem, g4, g7, g8, g9, g10, g11, g53, g54, g55]
            exact ⟨hg8.mono (by omega), hPD8, htl8, hB8, bel8, hsz8, hge, hgF⟩
          · simp -implicitDefEqProofs [go_sem, intOf, g55, k1]; omega
      · obtain ⟨d, hd12, hdw⟩ : ∃ d : Nat, (d = 1 ∨ d = 2) ∧ IntKind.i64.wrap (1 + IntKind.i64.wrap (uv 1#8)) = (d : Int) := ⟨2, .inr rfl, by decide +kernel⟩
        have hres := poolReserve_calls V d hd12 w7 hPD (hT.next bel7) hn hdat
        simp -implicitDefEqProofs [go_sem, g4, g7, g8, g9, g10, g11, g53, g54, g55, hB7.cell, A.c0, A.c1, hr, hdw]
        refine callE_of hres ?_
        rintro v w8 ⟨rfl, hPD8, t8⟩
        have hB8 := hB.mod t8.mod hgF
        have htl8 := htl.turn t8
        have bel8 := bel7.trans (t8.mod.below bel7.size hge)
        have hg8 := hg.reserve (shN 2) hd12
        have h00 := (well_reserve (s := shN 2) hg.well hd12).2
        obtain ⟨y, hy1, hy2⟩ := res_small hg.well hm4 hd12
        obtain ⟨R, hR⟩ : ∃ R, R = reserveV (shN 2) V d := ⟨_, rfl⟩
        rw [← hR] at hPD8 hg8 h00 hy1 ⊢
        obtain ⟨V1, x, e⟩ := R
        dsimp only at hPD8 hg8 h00 hy1 ⊢
        subst hy1
        have hsz8 := Nat.le_trans hsz7 t8.size
        rcases h00 with rfl | ⟨rfl, -⟩
        · obtain ⟨gn, c9, w9, hr9, htl9, b9, K, m9, hK1, hK2⟩ := htl8.push (by omega) hsz8 (fun k hk => hPD8.lt k hk) y hy2
          simp -implicitDefEqProofs [go_sem, g4, g7, g8, g9, g10, g11, g53, g54, g55, hr9, k1]
          refine goE_round ⟨k + 1, V1, F, some ⟨gn, 0, none⟩, n + 1, c9, xs ++ [y], by omega, by omega, ?_⟩ ?_
          · simp -implicitDefEqProofs [go_sem, g4, g7, g8, g9, g10, g11, g53, g54, g55]
            exact ⟨hg8.mono (by omega), hPD8.mod m9 hK1, htl9, hB8.mod m9 (fun h => by have := hK2 _ h; omega), bel8.trans (b9.mono bel5.size), Nat.le_trans hsz8 m9.size, hge, hgF⟩
          · simp -implicitDefEqProofs [go_sem, intOf, g55, k1]; omega
        · simp -implicitDefEqProofs [go_sem, g4, g7, g8, g9, g10, g11, g53, g54, g55, k1]
          refine goE_round ⟨k + 1, V1, F, a, n, c, xs, by omega, by omega, ?_⟩ ?_
          · simp -implicitDefEqProofs [go_sem, g4, g7, g8, g9, g10, g11, g53, g54, g55]
            exact ⟨hg8.mono (by omega), hPD8, htl8, hB8, bel8, hsz8, hge, hgF⟩
          · simp -implicitDefEqProofs [go_sem, intOf, g55, k1]; omega
      · simp -implicitDefEqProofs [go_sem, g4, g7, g8, g9, g10, g11, hB7.cell, A.c0, A.c1, hr]
        by_cases hn0 : n = 0
        · subst hn0
          simp -implicitDefEqProofs [go_sem, g4, g7, g8, g9, g10, g11, g53, g54, g55, k1]
          refine goE_round ⟨k + 1, V, F, a, 0, c, xs, by omega, by omega, ?_⟩ ?_
          · simp -implicitDefEqProofs [go_sem, g4, g7, g8, g9, g10, g11, g53, g54, g55]
            exact ⟨hg.mono (by omega), hPD, htl, hB, bel7, hsz7, hge, hgF⟩
          · simp -implicitDefEqProofs [go_sem, intOf, g55, k1]; omega
        · have hn1 : 0 < n := by omega
          obtain ⟨r, j, i1, i2, i3, i4, i5⟩ := idx_of (at_ := A.at_) hn1 (by omega)
          obtain ⟨bt, ot, x, rfl, gx, hxm, hx, -⟩ := htl.get i5
          have s1 := IntWalk.i64_in r (by omega)
          have s2 := IntWalk.i64_in (r + (n : Int)) (by omega)
          have s3 := IntWalk.i64_in (j : Int) (by omega)
          have i5' : (j : Int) < n := by omega
          have hact := poolTake_calls V (x : Int) w7 hPD rfl hn (by omega) (by unfold I64; omega) hdat
          simp -implicitDefEqProofs [go_sem, g4, g7, g8, g9, g10, g11, g53, g54, g55, hB7.cell, A.c0, A.c1, hr, hn1, hn0, i1, i4, s1, s2, s3, gx, i5, i5']
          refine callE_of hact ?_
          have hg8 := hg.take hm4 (shN 2) (x : Int)
          generalize (takeV (shN 2) V (x : Int)).1 = V2 at *
          generalize (takeV (shN 2) V (x : Int)).2 = e at *
          rintro v w8 ⟨rfl, F8, hPD8, t8⟩
          simp -implicitDefEqProofs [go_sem, g4, g7, g8, g9, g10, g11, g53, g54, g55, k1]
          refine goE_round ⟨k + 1, V2, F8, some ⟨bt, ot, none⟩, n, c, xs, by omega, by omega, ?_⟩ ?_
          · simp -implicitDefEqProofs [go_sem, g4, g7, g8, g9, g10, g11, g53, g54, g55]
            refine ⟨hg8, hPD8, htl.turn t8, hB.mod t8.mod hgF, bel7.trans (t8.mod.below bel7.size hge), Nat.le_trans hsz7 t8.size, t8.ge bel7.size hge, fun h => ?_⟩
            rcases t8.new _ h with h | h
            · exact hgF h
            · have := hB.lt; omega
          · simp -implicitDefEqProofs [go_sem, intOf, g55, k1]; omega
      · simp -implicitDefEqProofs [go_sem, g4, g7, g8, g9, g10, g11, hB7.cell, A.c0, A.c1, hr]
        by_cases hn0 : n = 0
        · subst hn0
          simp -implicitDefEqProofs [go_sem, g4, g7, g8, g9, g10, g11, g53, g54, g55, k1]
          refine goE_round ⟨k + 1, V, F, a, 0, c, xs, by omega, by omega, ?_⟩ ?_
          · simp -implicitDefEqProofs [go_sem, g4, g7, g8, g9, g10, g11, g53, g54, g55]
            exact ⟨hg.mono (by omega), hPD, htl, hB, bel7, hsz7, hge, hgF⟩
          · simp -implicitDefEqProofs [go_sem, intOf, g55, k1]; omega
        · have hn1 : 0 < n := by omega
          obtain ⟨r, j, i1, i2, i3, i4, i5⟩ := idx_of (at_ := A.at_) hn1 (by omega)
          obtain ⟨bt, ot, x, rfl, gx, hxm, hx, -⟩ := htl.get i5
          have s1 := IntWalk.i64_in r (by omega)
          have s2 := IntWalk.i64_in (r + (n : Int)) (by omega)
          have s3 := IntWalk.i64_in (j : Int) (by omega)
          have i5' : (j : Int) < n := by omega
          have hact := poolDrop_calls V (x : Int) w7 hPD rfl hn (by omega) (by unfold I64; omega) hdat
          simp -implicitDefEqProofs [go_sem, g4, g7, g8, g9, g10, g11, g53, g54, g55, hB7.cell, A.c0, A.c1, hr, hn1, hn0, i1, i4, s1, s2, s3, gx, i5, i5']
          refine callE_of hact ?_
          have hg8 := hg.drop hm4 (shN 2) (x : Int)
          generalize (dropV (shN 2) V (x : Int)).1 = V2 at *
          generalize (dropV (shN 2) V (x : Int)).2 = e at *
          rintro v w8 ⟨rfl, F8, hPD8, t8⟩
          simp -implicitDefEqProofs [go_sem, g4, g7, g8, g9, g10, g11, g53, g54, g55, k1]
          refine goE_round ⟨k + 1, V2, F8, some ⟨bt, ot, none⟩, n, c, xs, by omega, by omega, ?_⟩ ?_
          · simp -implicitDefEqProofs [go_sem, g4, g7, g8, g9, g10, g11, g53, g54, g55]
            refine ⟨hg8, hPD8, htl.turn t8, hB.mod t8.mod hgF, bel7.trans (t8.mod.below bel7.size hge), Nat.le_trans hsz7 t8.size, t8.ge bel7.size hge, fun h => ?_⟩
            rcases t8.new _ h with h | h
            · exact hgF h
            · have := hB.lt; omega
          · simp -implicitDefEqProofs [go_sem, intOf, g55, k1]; omega
    · have hk' : k = l0.length := by omega
      by_cases hn0 : n = 0
      · subst hn0
        simp -implicitDefEqProofs [go_sem, g4, g7, g8, g9, g10, g11, g53, g54, g55, hk']
        refine body_tmp 6 rfl ?_
        simp -implicitDefEqProofs [go_sem]
        exact bel6
      obtain ⟨nI, hnI⟩ : ∃ z : Int, z = (n : Int) := ⟨_, rfl⟩
      have hnz : ((n : Int) == 0) = false := by rw [beq_eq_false_iff_ne]; omega
      simp -implicitDefEqProofs [go_sem, g4, g7, g8, g9, g10, g11, g53, g54, g55, hk', hnz]
      have hAll := poolAllN_calls w6 hPD.pool hn hdat
      obtain ⟨LB, hLB⟩ : ∃ LB, LB = allK (shN 2) V.T V.T.length := ⟨_, rfl⟩
      rw [← hLB] at hAll
      have hLBn : LB.length ≤ 64 := by have := allK_len (shN 2) V.T V.T.length; rw [← hLB, hg.well.len] at this; omega
      refine callE_of hAll ?_
      rintro v w7 ⟨a7, c7, rfl, hv7, b7, hn7⟩
      have hPD7 := hPD.next b7
      have htl7 := htl.next b7
      have hB7 := hB.next b7
      have bel7 := bel6.trans (b7.mono bel6.size)
      have h67 := hPD.lt
      obtain ⟨z, hz1, hz2⟩ : ∃ z : Int, IntKind.i64.wrap (uv (x2 % 5#8)) = z ∧ z ≤ 9223372036854775807 := ⟨_, rfl, by
        have : (x2 % 5#8).toNat = x2.toNat % 5 := by simp
        rw [IntWalk.i64_in _ (by unfold uv; omega)]; unfold uv; omega⟩
      have hstop := stopB z w7 hPD7.dev hz2
      simp -implicitDefEqProofs [go_sem, g4, g7, g8, g9, g10, g11, hz1]
      refine callE_of hstop ?_
      rintro v w8 ⟨rfl, F8, hD8, t8⟩
      have hPD8 := hPD7.turn hD8 t8
      have T8 := turn_pd (b := b) (tb := tb) (hb := hb) t8
      have htl8 := htl7.turn T8
      have hB8 := hB7.mod T8.mod hgF
      have bel8 := bel7.trans (T8.mod.below bel7.size hge)
      have hge8 := T8.ge bel7.size hge
      have hv8 := hv7.turn (fun _ y hy h => by have := h67 _ h; have := hn7 y hy; omega) T8
      have hn1 : 0 < n := by omega
      obtain ⟨r, j, i1, i2, i3, i4, i5⟩ := idx_of (at_ := A1.at_) hn1 (by omega)
      obtain ⟨bt, ot, x, rfl, gx, hxm, hx, -⟩ := htl8.get i5
      have s1 := IntWalk.i64_in r (by omega)
      have s2 := IntWalk.i64_in (r + (n : Int)) (by omega)
      have s3 := IntWalk.i64_in (j : Int) (by omega)
      have i5' : (j : Int) < n := by omega
      have hsts : (V.D.stop z).steps = V.D.steps := NM.stop_steps _ _
      have hx6 : I64 (x : Int) := by unfold I64; omega
      rcases mod2_two A1.kind with hr | hr
      · simp -implicitDefEqProofs [go_sem, g4, g7, g8, g9, g10, g11, hB8.cell, A1.c0, A1.c1, hr, hn1, hn0, i1, i4, s1, s2, s3, gx, i5, i5']
        have hact := poolTake_calls ⟨V.T, V.H, V.D.stop z⟩ (x : Int) w8 hPD8 rfl hn (show (V.D.stop z).steps + 3 < 1099511627776 by omega) hx6 hdat
        have hdur := dur_take hg hm4 hz2 x
        have hsp := takeV_steps (shN 2) ⟨V.T, V.H, V.D.stop z⟩ (x : Int)
        obtain ⟨R, hR⟩ : ∃ R, R = takeV (shN 2) ⟨V.T, V.H, V.D.stop z⟩ (x : Int) := ⟨_, rfl⟩
        rw [← hR] at hact hdur hsp
        obtain ⟨V2, e⟩ := R
        dsimp only at hact hsp
        refine callE_of hact ?_
        rintro v w9 ⟨rfl, F9, hPD9, t9⟩
        have bel9 := bel8.trans (t9.mod.below bel8.size hge8)
        have hge9 := t9.ge bel8.size hge8
        obtain ⟨hv9, ha9⟩ := hv8.1.turn hv8.2 t9
        obtain ⟨T', hgT, hlen2, hcases⟩ := hdur l2 (hPD9.dev.ok.crash l2)
        dsimp only at hPD9 hgT hlen2 hcases
        have hn2 : V2.T.length ≤ 64 := by omega
        have hAll2 := poolAllN_calls w9 hPD9.pool hn2 hdat
        obtain ⟨LC, hLC⟩ : ∃ LC, LC = allK (shN 2) V2.T V2.T.length := ⟨_, rfl⟩
        rw [← hLC] at hAll2
        have hLCn : LC.length ≤ 64 := by have := allK_len (shN 2) V2.T V2.T.length; rw [← hLC] at this; omega
        simp -implicitDefEqProofs [go_sem, g4, g7, g8, g9, g10, g11]
        refine callE_of hAll2 ?_
        rintro v w10 ⟨a10, c10, rfl, hv10, b10, hn10⟩
        have hPD10 := hPD9.next b10
        have bel10 := bel9.trans (b10.mono bel9.size)
        have h910 := hPD9.lt
        have hv9b := hv9.next b10
        have hin10 := in2.next bel10
        have hcr := crashB a2 cap2 l2 w10 hPD10.dev hin10 (fun hne y hy hk => by
          obtain ⟨b', o', e2, g⟩ := in2.at_.cell (i := 0) (List.length_pos_iff.2 hne)
          have h2 := World.block_lt_of_cell? w0 _ g
          rw [hy] at e2; cases e2
          have := hge9 _ (.inl hk)
          dsimp only at h2 this; omega) (by omega)
        simp -implicitDefEqProofs [go_sem, g4, g7, g8, g9, g10, g11]
        refine callE_of hcr ?_
        rintro v w11 ⟨rfl, F11, hD11, t11⟩
        have hPD11 := hPD10.turn hD11 t11
        have T11 := turn_pd (b := b) (tb := tb) (hb := hb) t11
        have bel11 := bel10.trans (T11.mod.below bel10.size hge9)
        obtain ⟨hv11, ha11⟩ := hv9b.turn ha9 T11
        obtain ⟨hw11, -⟩ := hv10.turn (fun _ y hy h => by have := h910 _ h; have := hn10 y hy; omega) T11
        simp -implicitDefEqProofs [go_sem, g4, g7, g8, g9, g10, g11]
        refine callE_of (openWell_calls hm4 hgT w11 hD11 (hF.next bel11)) ?_
        rintro v w12 ⟨q, ta, tac, ha, hac, rfl, hQ, b12, hgq⟩
        have bel12 := bel11.trans (b12.mono bel11.size)
        have hTn : T'.length ≤ 64 := by have := hgT.well.len; dsimp only at this; omega
        have hheld : Ret Tryd.prog 23 #[.pointer (some ⟨q, 0, none⟩)] w12 fun v w' => v = .int .i64 0 ∧ Below w12.heap.size w12 w' := by
          refine (poolHeld_calls w12 hQ hTn).mono ?_
          rintro v w' ⟨rfl, h⟩
          refine ⟨?_, h⟩
          rw [many_zero]; rfl
        simp -implicitDefEqProofs [go_sem, g4, g7, g8, g9, g10, g11]
        refine callE_of hheld ?_
        rintro v w13 ⟨rfl, b13⟩
        have bel13 := bel12.trans (b13.mono bel12.size)
        have hAll3 := poolAllN_calls w13 (hQ.next b13) hTn hdat
        obtain ⟨LN, hLN⟩ : ∃ LN, LN = allK (shN 2) T' T'.length := ⟨_, rfl⟩
        rw [← hLN] at hAll3
        have hLNn : LN.length ≤ 64 := by have := allK_len (shN 2) T' T'.length; rw [← hLN] at this; have := hgT.well.len; dsimp only at this; omega
        simp -implicitDefEqProofs [go_sem, g4, g7, g8, g9, g10, g11]
        refine callE_of hAll3 ?_
        rintro v w14 ⟨a14, c14, rfl, hv14, b14, -⟩
        have bel14 := bel13.trans (b14.mono bel13.size)
        have hv14b := ((hv11.next b12).next b13).next b14
        have hw14 := ((hw11.next b12).next b13).next b14
        rcases hcases with ⟨he, hT'⟩ | ⟨he, hT', hfil⟩
        · have hsame : LN = LC := by rw [hLN, hLC, hT']
          have he1 : (e == 0) = true ∨ ((e == 0) = false ∧ (e == 7) = true) := by
            rcases he with rfl | rfl
            · exact .inl rfl
            · exact .inr ⟨rfl, rfl⟩
          rcases he1 with he1 | ⟨he1, he2⟩
          · simp -implicitDefEqProofs [go_sem, g4, g7, g8, g9, g10, g11, he1]
            refine callE_of (sameI_calls a14 a10 LN LC c14 c10 w14 hv14 hw14) ?_
            rintro v w15 ⟨rfl, b15⟩
            rw [decide_eq_true hsame]
            simp -implicitDefEqProofs [go_sem]
            refine body_tmp 6 rfl ?_
            simp -implicitDefEqProofs [go_sem]
            exact bel14.trans (b15.mono bel14.size)
          · simp -implicitDefEqProofs [go_sem, g4, g7, g8, g9, g10, g11, he1, he2]
            refine callE_of (sameI_calls a14 a10 LN LC c14 c10 w14 hv14 hw14) ?_
            rintro v w15 ⟨rfl, b15⟩
            rw [decide_eq_true hsame]
            simp -implicitDefEqProofs [go_sem]
            refine body_tmp 6 rfl ?_
            simp -implicitDefEqProofs [go_sem]
            exact bel14.trans (b15.mono bel14.size)
        · have hsame : LC = LB := by rw [hLB, hLC, hT']
          subst he
          have hcn := cnt_filter x LN
          have hcb := cnt_filter x LB
          have hc1 : cntN x LN ≤ 1 := by rw [hLN]; exact all_cnt hdat.1 x T' _
          have hfl : (LN.filter (fun y => decide (y ≠ x))).length = (LB.filter (fun y => decide (y ≠ x))).length := by
            have e1 := hgT.well.len
            dsimp only at e1
            rw [hLN, hLB, e1, hg.well.len, hfil]
          clear hcr hAll hAll2 hAll3
          simp -implicitDefEqProofs [go_sem, g4, g7, g8, g9, g10, g11]
          refine callE_of (sameI_calls a10 a7 LC LB c10 c7 w14 hw14 hv14b) ?_
          rintro v w15 ⟨rfl, b15⟩
          have bel15 := bel14.trans (b15.mono bel14.size)
          have hx15 := hv14.next b15
          have hy15 := hv14b.next b15
          rw [decide_eq_true hsame]
          simp -implicitDefEqProofs [go_sem, g4, g7, g8, g9, g10, g11]
          refine wpE_loop (fun e2 w' => ∃ i : Nat, i ≤ LN.length ∧ e2 16 = .slice a7 LB.length c7 ∧ e2 17 = .int .i64 (x : Int) ∧ e2 22 = .slice a14 LN.length c14 ∧ e2 23 = .int .i64 (cntN x (LN.take i) : Int) ∧ e2 196 = .slice a14 LN.length c14 ∧ e2 197 = .int .i64 (LN.length : Int) ∧ e2 198 = .int .i64 (i : Int) ∧ w15 = w') (fun e2 _ => LN.length - (intOf (e2 198)).toNat) ?_ ?_
          · refine ⟨0, by omega, ?_⟩
            simp -implicitDefEqProofs [go_sem, g4, g7, g8, g9, g10, g11, List.take_zero, cntN]
          · rintro e2 w' ⟨i, hi, q16, q17, q22, q23, q196, q197, q198, rfl⟩
            by_cases hil : i < LN.length
            · have hil' : (i : Int) < LN.length := by omega
              have r1 := IntWalk.i64_in ((i : Int) + 1) (by omega)
              obtain ⟨bz, oz, rfl, gz⟩ := hx15.nat hil
              have htk := cnt_take x LN hil
              have hle := cnt_le x (LN.take i)
              rw [List.length_take] at hle
              generalize LN[i] = y at *
              obtain ⟨C, hC⟩ : ∃ C, C = cntN x (LN.take i) := ⟨_, rfl⟩
              obtain ⟨C', hC'⟩ : ∃ C, C = cntN x (LN.take (i + 1)) := ⟨_, rfl⟩
              rw [← hC] at q23 htk hle
              rw [← hC'] at htk
              have r2 := IntWalk.i64_in ((C : Int) + 1) (by omega)
              by_cases hxy : y = x
              · rw [if_pos hxy] at htk
                have hxb : ((y : Int) == (x : Int)) = true := by rw [beq_iff_eq]; omega
                simp -implicitDefEqProofs [go_sem, q16, q17, q22, q23, q196, q197, q198, hil, hil', gz, hxb, hxy, r1, r2]
                refine goE_round ⟨i + 1, by omega, ?_⟩ ?_
                · rw [← hC', htk]
                  simp -implicitDefEqProofs [go_sem, q16, q17, q22, q23, q196, q197]
                · simp -implicitDefEqProofs [go_sem, intOf, q198, r1]; omega
              · rw [if_neg hxy] at htk
                have hxb : ((y : Int) == (x : Int)) = false := by rw [beq_eq_false_iff_ne]; omega
                simp -implicitDefEqProofs [go_sem, q16, q17, q22, q23, q196, q197, q198, hil, hil', gz, hxb, hxy, r1]
                refine goE_round ⟨i + 1, by omega, ?_⟩ ?_
                · rw [← hC', htk]
                  simp -implicitDefEqProofs [go_sem, q16, q17, q22, q23, q196, q197]
                · simp -implicitDefEqProofs [go_sem, intOf, q198, r1]; omega
            · have hi' : i = LN.length := by omega
              rw [hi', List.take_length] at q23
              simp -implicitDefEqProofs [go_sem, q16, q17, q22, q23, q196, q197, q198, hi']
              refine wpE_loop (fun e3 w' => ∃ i : Nat, i ≤ LB.length ∧ e3 16 = .slice a7 LB.length c7 ∧ e3 17 = .int .i64 (x : Int) ∧ e3 22 = .slice a14 LN.length c14 ∧ e3 23 = .int .i64 (cntN x LN : Int) ∧ e3 26 = .int .i64 (cntN x (LB.take i) : Int) ∧ e3 208 = .slice a7 LB.length c7 ∧ e3 209 = .int .i64 (LB.length : Int) ∧ e3 210 = .int .i64 (i : Int) ∧ w15 = w') (fun e3 _ => LB.length - (intOf (e3 210)).toNat) ?_ ?_
              · refine ⟨0, by omega, ?_⟩
                simp -implicitDefEqProofs [go_sem, q16, q17, q22, q23, List.take_zero, cntN]
              · rintro e3 w' ⟨i, hi, p16, p17, p22, p23, p26, p208, p209, p210, rfl⟩
                by_cases hil : i < LB.length
                · have hil' : (i : Int) < LB.length := by omega
                  have r1 := IntWalk.i64_in ((i : Int) + 1) (by omega)
                  obtain ⟨bz, oz, rfl, gz⟩ := hy15.nat hil
                  have htk := cnt_take x LB hil
                  have hle := cnt_le x (LB.take i)
                  rw [List.length_take] at hle
                  generalize LB[i] = y at *
                  obtain ⟨C, hC⟩ : ∃ C, C = cntN x (LB.take i) := ⟨_, rfl⟩
                  obtain ⟨C', hC'⟩ : ∃ C, C = cntN x (LB.take (i + 1)) := ⟨_, rfl⟩
                  rw [← hC] at p26 htk hle
                  rw [← hC'] at htk
                  have r2 := IntWalk.i64_in ((C : Int) + 1) (by omega)
                  by_cases hxy : y = x
                  · rw [if_pos hxy] at htk
                    have hxb : ((y : Int) == (x : Int)) = true := by rw [beq_iff_eq]; omega
                    simp -implicitDefEqProofs [go_sem, p16, p17, p22, p23, p26, p208, p209, p210, hil, hil', gz, hxb, hxy, r1, r2]
                    refine goE_round ⟨i + 1, by omega, ?_⟩ ?_
                    · rw [← hC', htk]
                      simp -implicitDefEqProofs [go_sem, p16, p17, p22, p23, p26, p208, p209]
                    · simp -implicitDefEqProofs [go_sem, intOf, p210, r1]; omega
                  · rw [if_neg hxy] at htk
                    have hxb : ((y : Int) == (x : Int)) = false := by rw [beq_eq_false_iff_ne]; omega
                    simp -implicitDefEqProofs [go_sem, p16, p17, p22, p23, p26, p208, p209, p210, hil, hil', gz, hxb, hxy, r1]
                    refine goE_round ⟨i + 1, by omega, ?_⟩ ?_
                    · rw [← hC', htk]
                      simp -implicitDefEqProofs [go_sem, p16, p17, p22, p23, p26, p208, p209]
                    · simp -implicitDefEqProofs [go_sem, intOf, p210, r1]; omega
                · have hi2 : i = LB.length := by omega
                  rw [hi2, List.take_length] at p26
                  obtain ⟨u, hu⟩ : ∃ u : Int, u = (LN.length : Int) - (cntN x LN : Int) := ⟨_, rfl⟩
                  have hu2 : (LB.length : Int) - (cntN x LB : Int) = u := by omega
                  have r3 := IntWalk.i64_in u (by omega)
                  have hc1' : (cntN x LN : Int) ≤ 1 := by omega
                  simp -implicitDefEqProofs [go_sem, p16, p17, p22, p23, p26, p208, p209, p210, hi2, ← hu, hu2, r3, hc1, hc1']
                  refine body_tmp 6 rfl ?_
                  simp -implicitDefEqProofs [go_sem, p16, p17, p22, p23, p26, p208, p209, p210, hi2, ← hu, hu2, r3, hc1, hc1']
                  exact bel15
      · simp -implicitDefEqProofs [go_sem, g4, g7, g8, g9, g10, g11, hB8.cell, A1.c0, A1.c1, hr, hn1, hn0, i1, i4, s1, s2, s3, gx, i5, i5']
        have hact := poolDrop_calls ⟨V.T, V.H, V.D.stop z⟩ (x : Int) w8 hPD8 rfl hn (show (V.D.stop z).steps + 3 < 1099511627776 by omega) hx6 hdat
        have hdur := dur_drop hg hm4 hz2 x
        have hsp := dropV_steps (shN 2) ⟨V.T, V.H, V.D.stop z⟩ (x : Int)
        obtain ⟨R, hR⟩ : ∃ R, R = dropV (shN 2) ⟨V.T, V.H, V.D.stop z⟩ (x : Int) := ⟨_, rfl⟩
        rw [← hR] at hact hdur hsp
        obtain ⟨V2, e⟩ := R
        dsimp only at hact hsp
        refine callE_of hact ?_
        rintro v w9 ⟨rfl, F9, hPD9, t9⟩
        have bel9 := bel8.trans (t9.mod.below bel8.size hge8)
        have hge9 := t9.ge bel8.size hge8
        obtain ⟨hv9, ha9⟩ := hv8.1.turn hv8.2 t9
        obtain ⟨T', hgT, hlen2, hcases⟩ := hdur l2 (hPD9.dev.ok.crash l2)
        dsimp only at hPD9 hgT hlen2 hcases
        have hn2 : V2.T.length ≤ 64 := by omega
        have hAll2 := poolAllN_calls w9 hPD9.pool hn2 hdat
        obtain ⟨LC, hLC⟩ : ∃ LC, LC = allK (shN 2) V2.T V2.T.length := ⟨_, rfl⟩
        rw [← hLC] at hAll2
        have hLCn : LC.length ≤ 64 := by have := allK_len (shN 2) V2.T V2.T.length; rw [← hLC] at this; omega
        simp -implicitDefEqProofs [go_sem, g4, g7, g8, g9, g10, g11]
        refine callE_of hAll2 ?_
        rintro v w10 ⟨a10, c10, rfl, hv10, b10, hn10⟩
        have hPD10 := hPD9.next b10
        have bel10 := bel9.trans (b10.mono bel9.size)
        have h910 := hPD9.lt
        have hv9b := hv9.next b10
        have hin10 := in2.next bel10
        have hcr := crashB a2 cap2 l2 w10 hPD10.dev hin10 (fun hne y hy hk => by
          obtain ⟨b', o', e2, g⟩ := in2.at_.cell (i := 0) (List.length_pos_iff.2 hne)
          have h2 := World.block_lt_of_cell? w0 _ g
          rw [hy] at e2; cases e2
          have := hge9 _ (.inl hk)
          dsimp only at h2 this; omega) (by omega)
        simp -implicitDefEqProofs [go_sem, g4, g7, g8, g9, g10, g11]
        refine callE_of hcr ?_
        rintro v w11 ⟨rfl, F11, hD11, t11⟩
        have hPD11 := hPD10.turn hD11 t11
        have T11 := turn_pd (b := b) (tb := tb) (hb := hb) t11
        have bel11 := bel10.trans (T11.mod.below bel10.size hge9)
        obtain ⟨hv11, ha11⟩ := hv9b.turn ha9 T11
        obtain ⟨hw11, -⟩ := hv10.turn (fun _ y hy h => by have := h910 _ h; have := hn10 y hy; omega) T11
        simp -implicitDefEqProofs [go_sem, g4, g7, g8, g9, g10, g11]
        refine callE_of (openWell_calls hm4 hgT w11 hD11 (hF.next bel11)) ?_
        rintro v w12 ⟨q, ta, tac, ha, hac, rfl, hQ, b12, hgq⟩
        have bel12 := bel11.trans (b12.mono bel11.size)
        have hTn : T'.length ≤ 64 := by have := hgT.well.len; dsimp only at this; omega
        have hheld : Ret Tryd.prog 23 #[.pointer (some ⟨q, 0, none⟩)] w12 fun v w' => v = .int .i64 0 ∧ Below w12.heap.size w12 w' := by
          refine (poolHeld_calls w12 hQ hTn).mono ?_
          rintro v w' ⟨rfl, h⟩
          refine ⟨?_, h⟩
          rw [many_zero]; rfl
        simp -implicitDefEqProofs [go_sem, g4, g7, g8, g9, g10, g11]
        refine callE_of hheld ?_
        rintro v w13 ⟨rfl, b13⟩
        have bel13 := bel12.trans (b13.mono bel12.size)
        have hAll3 := poolAllN_calls w13 (hQ.next b13) hTn hdat
        obtain ⟨LN, hLN⟩ : ∃ LN, LN = allK (shN 2) T' T'.length := ⟨_, rfl⟩
        rw [← hLN] at hAll3
        have hLNn : LN.length ≤ 64 := by have := allK_len (shN 2) T' T'.length; rw [← hLN] at this; have := hgT.well.len; dsimp only at this; omega
        simp -implicitDefEqProofs [go_sem, g4, g7, g8, g9, g10, g11]
        refine callE_of hAll3 ?_
        rintro v w14 ⟨a14, c14, rfl, hv14, b14, -⟩
        have bel14 := bel13.trans (b14.mono bel13.size)
        have hv14b := ((hv11.next b12).next b13).next b14
        have hw14 := ((hw11.next b12).next b13).next b14
        rcases hcases with ⟨he, hT'⟩ | ⟨he, hT', hfil⟩
        · have hsame : LN = LC := by rw [hLN, hLC, hT']
          have he1 : (e == 0) = true ∨ ((e == 0) = false ∧ (e == 7) = true) := by
            rcases he with rfl | rfl
            · exact .inl rfl
            · exact .inr ⟨rfl, rfl⟩
          rcases he1 with he1 | ⟨he1, he2⟩
          · simp -implicitDefEqProofs [go_sem, g4, g7, g8, g9, g10, g11, he1]
            refine callE_of (sameI_calls a14 a10 LN LC c14 c10 w14 hv14 hw14) ?_
            rintro v w15 ⟨rfl, b15⟩
            rw [decide_eq_true hsame]
            simp -implicitDefEqProofs [go_sem]
            refine body_tmp 6 rfl ?_
            simp -implicitDefEqProofs [go_sem]
            exact bel14.trans (b15.mono bel14.size)
          · simp -implicitDefEqProofs [go_sem, g4, g7, g8, g9, g10, g11, he1, he2]
            refine callE_of (sameI_calls a14 a10 LN LC c14 c10 w14 hv14 hw14) ?_
            rintro v w15 ⟨rfl, b15⟩
            rw [decide_eq_true hsame]
            simp -implicitDefEqProofs [go_sem]
            refine body_tmp 6 rfl ?_
            simp -implicitDefEqProofs [go_sem]
            exact bel14.trans (b15.mono bel14.size)
        · have hsame : LC = LB := by rw [hLB, hLC, hT']
          subst he
          have hcn := cnt_filter x LN
          have hcb := cnt_filter x LB
          have hc1 : cntN x LN ≤ 1 := by rw [hLN]; exact all_cnt hdat.1 x T' _
          have hfl : (LN.filter (fun y => decide (y ≠ x))).length = (LB.filter (fun y => decide (y ≠ x))).length := by
            have e1 := hgT.well.len
            dsimp only at e1
            rw [hLN, hLB, e1, hg.well.len, hfil]
          clear hcr hAll hAll2 hAll3
          simp -implicitDefEqProofs [go_sem, g4, g7, g8, g9, g10, g11]
          refine callE_of (sameI_calls a10 a7 LC LB c10 c7 w14 hw14 hv14b) ?_
          rintro v w15 ⟨rfl, b15⟩
          have bel15 := bel14.trans (b15.mono bel14.size)
          have hx15 := hv14.next b15
          have hy15 := hv14b.next b15
          rw [decide_eq_true hsame]
          simp -implicitDefEqProofs [go_sem, g4, g7, g8, g9, g10, g11]
          refine wpE_loop (fun e2 w' => ∃ i : Nat, i ≤ LN.length ∧ e2 16 = .slice a7 LB.length c7 ∧ e2 17 = .int .i64 (x : Int) ∧ e2 22 = .slice a14 LN.length c14 ∧ e2 23 = .int .i64 (cntN x (LN.take i) : Int) ∧ e2 196 = .slice a14 LN.length c14 ∧ e2 197 = .int .i64 (LN.length : Int) ∧ e2 198 = .int .i64 (i : Int) ∧ w15 = w') (fun e2 _ => LN.length - (intOf (e2 198)).toNat) ?_ ?_
          · refine ⟨0, by omega, ?_⟩
            simp -implicitDefEqProofs [go_sem, g4, g7, g8, g9, g10, g11, List.take_zero, cntN]
          · rintro e2 w' ⟨i, hi, q16, q17, q22, q23, q196, q197, q198, rfl⟩
            by_cases hil : i < LN.length
            · have hil' : (i : Int) < LN.length := by omega
              have r1 := IntWalk.i64_in ((i : Int) + 1) (by omega)
              obtain ⟨bz, oz, rfl, gz⟩ := hx15.nat hil
              have htk := cnt_take x LN hil
              have hle := cnt_le x (LN.take i)
              rw [List.length_take] at hle
              generalize LN[i] = y at *
              obtain ⟨C, hC⟩ : ∃ C, C = cntN x (LN.take i) := ⟨_, rfl⟩
              obtain ⟨C', hC'⟩ : ∃ C, C = cntN x (LN.take (i + 1)) := ⟨_, rfl⟩
              rw [← hC] at q23 htk hle
              rw [← hC'] at htk
              have r2 := IntWalk.i64_in ((C : Int) + 1) (by omega)
              by_cases hxy : y = x
              · rw [if_pos hxy] at htk
                have hxb : ((y : Int) == (x : Int)) = true := by rw [beq_iff_eq]; omega
                simp -implicitDefEqProofs [go_sem, q16, q17, q22, q23, q196, q197, q198, hil, hil', gz, hxb, hxy, r1, r2]
                refine goE_round ⟨i + 1, by omega, ?_⟩ ?_
                · rw [← hC', htk]
                  simp -implicitDefEqProofs [go_sem, q16, q17, q22, q23, q196, q197]
                · simp -implicitDefEqProofs [go_sem, intOf, q198, r1]; omega
              · rw [if_neg hxy] at htk
                have hxb : ((y : Int) == (x : Int)) = false := by rw [beq_eq_false_iff_ne]; omega
                simp -implicitDefEqProofs [go_sem, q16, q17, q22, q23, q196, q197, q198, hil, hil', gz, hxb, hxy, r1]
                refine goE_round ⟨i + 1, by omega, ?_⟩ ?_
                · rw [← hC', htk]
                  simp -implicitDefEqProofs [go_sem, q16, q17, q22, q23, q196, q197]
                · simp -implicitDefEqProofs [go_sem, intOf, q198, r1]; omega
            · have hi' : i = LN.length := by omega
              rw [hi', List.take_length] at q23
              simp -implicitDefEqProofs [go_sem, q16, q17, q22, q23, q196, q197, q198, hi']
              refine wpE_loop (fun e3 w' => ∃ i : Nat, i ≤ LB.length ∧ e3 16 = .slice a7 LB.length c7 ∧ e3 17 = .int .i64 (x : Int) ∧ e3 22 = .slice a14 LN.length c14 ∧ e3 23 = .int .i64 (cntN x LN : Int) ∧ e3 26 = .int .i64 (cntN x (LB.take i) : Int) ∧ e3 208 = .slice a7 LB.length c7 ∧ e3 209 = .int .i64 (LB.length : Int) ∧ e3 210 = .int .i64 (i : Int) ∧ w15 = w') (fun e3 _ => LB.length - (intOf (e3 210)).toNat) ?_ ?_
              · refine ⟨0, by omega, ?_⟩
                simp -implicitDefEqProofs [go_sem, q16, q17, q22, q23, List.take_zero, cntN]
              · rintro e3 w' ⟨i, hi, p16, p17, p22, p23, p26, p208, p209, p210, rfl⟩
                by_cases hil : i < LB.length
                · have hil' : (i : Int) < LB.length := by omega
                  have r1 := IntWalk.i64_in ((i : Int) + 1) (by omega)
                  obtain ⟨bz, oz, rfl, gz⟩ := hy15.nat hil
                  have htk := cnt_take x LB hil
                  have hle := cnt_le x (LB.take i)
                  rw [List.length_take] at hle
                  generalize LB[i] = y at *
                  obtain ⟨C, hC⟩ : ∃ C, C = cntN x (LB.take i) := ⟨_, rfl⟩
                  obtain ⟨C', hC'⟩ : ∃ C, C = cntN x (LB.take (i + 1)) := ⟨_, rfl⟩
                  rw [← hC] at p26 htk hle
                  rw [← hC'] at htk
                  have r2 := IntWalk.i64_in ((C : Int) + 1) (by omega)
                  by_cases hxy : y = x
                  · rw [if_pos hxy] at htk
                    have hxb : ((y : Int) == (x : Int)) = true := by rw [beq_iff_eq]; omega
                    simp -implicitDefEqProofs [go_sem, p16, p17, p22, p23, p26, p208, p209, p210, hil, hil', gz, hxb, hxy, r1, r2]
                    refine goE_round ⟨i + 1, by omega, ?_⟩ ?_
                    · rw [← hC', htk]
                      simp -implicitDefEqProofs [go_sem, p16, p17, p22, p23, p26, p208, p209]
                    · simp -implicitDefEqProofs [go_sem, intOf, p210, r1]; omega
                  · rw [if_neg hxy] at htk
                    have hxb : ((y : Int) == (x : Int)) = false := by rw [beq_eq_false_iff_ne]; omega
                    simp -implicitDefEqProofs [go_sem, p16, p17, p22, p23, p26, p208, p209, p210, hil, hil', gz, hxb, hxy, r1]
                    refine goE_round ⟨i + 1, by omega, ?_⟩ ?_
                    · rw [← hC', htk]
                      simp -implicitDefEqProofs [go_sem, p16, p17, p22, p23, p26, p208, p209]
                    · simp -implicitDefEqProofs [go_sem, intOf, p210, r1]; omega
                · have hi2 : i = LB.length := by omega
                  rw [hi2, List.take_length] at p26
                  obtain ⟨u, hu⟩ : ∃ u : Int, u = (LN.length : Int) - (cntN x LN : Int) := ⟨_, rfl⟩
                  have hu2 : (LB.length : Int) - (cntN x LB : Int) = u := by omega
                  have r3 := IntWalk.i64_in u (by omega)
                  have hc1' : (cntN x LN : Int) ≤ 1 := by omega
                  simp -implicitDefEqProofs [go_sem, p16, p17, p22, p23, p26, p208, p209, p210, hi2, ← hu, hu2, r3, hc1, hc1']
                  refine body_tmp 6 rfl ?_
                  simp -implicitDefEqProofs [go_sem, p16, p17, p22, p23, p26, p208, p209, p210, hi2, ← hu, hu2, r3, hc1, hc1']
                  exact bel15
end Go.Proofs.YtcpackbljaabnaaDoor
