/- PoolApart: its walk. -/
import Derived.Test.YtcpackbljaabnaaDoorPoolRest
namespace Go.Proofs.YtcpackbljaabnaaDoor
set_option linter.unusedVariables false
set_option linter.unusedSimpArgs false
set_option maxRecDepth 100000
open Go Go.RowKit Go.Maps

set_option maxHeartbeats 2000000 in
theorem poolApart_walk (x0 : BitVec 8) (a1 : Option Addr) (l1 : List PAct) (cap1 : Nat) (w0 : World) (hF : Fours w0) (hT : Tabs w0) (in1 : PActsIn w0 a1 l1 cap1) :
    Ret Tryd.prog 3 #[.int .u8 (uv x0), .slice a1 l1.length cap1] w0 fun v w' => v = .bool true ∧ Below w0.heap.size w0 w' := by
  have bel0 := Below.refl w0.heap.size w0
  obtain ⟨m, hm⟩ : ∃ m, m = 1 + x0.toNat % 4 := ⟨_, rfl⟩
  have hm4 : 1 ≤ m ∧ m ≤ 4 := by omega
  obtain ⟨L, hL⟩ : ∃ L : Int, L = ((3 + 16 * m : Nat) : Int) := ⟨_, rfl⟩
  have hdat := dat_ok m
  refine ret_of (args := [_, _]) _ Tryd.func3 rfl Tryd.ntmps3 (by simp) ?_
  simp -implicitDefEqProofs [go_sem]
  refine callE_of (poolAlive_calls w0 hF hT) ?_
  rintro v w1 ⟨rfl, b1⟩
  have bel1 := bel0.trans (b1.mono bel0.size)
  by_cases h100 : (120 : Int) < l1.length
  · simp -implicitDefEqProofs [go_sem, h100]
    refine body_tmp 4 rfl ?_
    simp -implicitDefEqProofs [go_sem]
    exact bel1
  simp -implicitDefEqProofs [go_sem, h100]
  refine callE_of (linesL hm hL w1) ?_
  rintro v w2 ⟨rfl, rfl⟩
  simp -implicitDefEqProofs [go_sem]
  refine callE_of (beginL hm4 hL w2 (hF.next bel1)) ?_
  rintro v w3 ⟨p, b, tb, tc, hb, hc, F, rfl, hPD, b3, hge⟩
  have bel3 := bel1.trans (b3.mono bel1.size)
  have hge3 : ∀ k, PdK b tb hb F k → w0.heap.size ≤ k := fun k hk => Nat.le_trans bel1.size (hge k hk)
  have hg0 := good_zero hm4
  have hlt3 := hPD.lt
  simp -implicitDefEqProofs [go_sem, run_makeMap]
  have hM4 := mapI_made w3
  have hb4 : Below w3.heap.size w3 (w3.alloc (.map #[] 0)) := (Below.refl _ _).alloc (Nat.le_refl _) _
  obtain ⟨bm, hbm⟩ : ∃ g, g = w3.heap.size := ⟨_, rfl⟩
  have hPD4 := hPD.next hb4
  have bel4 := bel3.trans (hb4.mono bel3.size)
  have hB0 : w0.heap.size ≤ (w3.alloc (.map #[] 0)).heap.size := bel4.size
  rw [← hbm] at hM4 ⊢
  have hbm0 : w0.heap.size ≤ bm := by rw [hbm]; exact bel3.size
  have hbmF : ¬ PdK b tb hb F bm := fun h => by have := hlt3 _ h; omega
  have hM4 := hM4.congr (g := sizeF (shN m) m (bF (zL m) (zL m))) (fun z _ => size_zero z)
  generalize hw4 : World.alloc w3 _ = w4 at *
  have htl := told_nil w4 w4.heap.size (GM bm (PdK b tb hb F))
  obtain ⟨B, hB⟩ : ∃ B, B = w4.heap.size := ⟨_, rfl⟩
  rw [← hB] at htl hB0
  refine wpE_loop (fun e' w' => ∃ (k : Nat) (V : PV) (F : Nat → Prop) (a : Option Addr) (n c : Nat) (xs : List Nat) (nm : Nat), k ≤ l1.length ∧ n ≤ k ∧ nm ≤ k ∧ e' 5 = .pointer (some ⟨p, 0, none⟩) ∧ e' 6 = .pointer (some ⟨b, 0, none⟩) ∧ e' 7 = .map (some bm) ∧ e' 8 = .slice a n c ∧
    e' 38 = .slice a1 l1.length cap1 ∧ e' 39 = .int .i64 (l1.length : Int) ∧ e' 40 = .int .i64 (k : Int) ∧
    Good m k V ∧ PD w' b p (shN m) V.T V.H tb tc hb hc F V.D ∧ Told w' B (GM bm (PdK b tb hb F)) a n c xs ∧ MapI w' bm nm (sizeF (shN m) m (bF V.T V.H)) ∧ Below w0.heap.size w0 w' ∧ B ≤ w'.heap.size ∧ (∀ k, PdK b tb hb F k → w0.heap.size ≤ k) ∧ ¬ PdK b tb hb F bm) (fun e' _ => l1.length - (intOf (e' 40)).toNat) ?_ ?_
  · refine ⟨0, ⟨zL m, zL m, begD m⟩, F, none, 0, 0, [], 0, by omega, by omega, by omega, ?_⟩
    simp -implicitDefEqProofs [go_sem]
    exact ⟨hg0, hPD4, htl, hM4, bel4, by omega, hge3, hbmF⟩
  · clear hPD hPD4 hge hge3 hlt3 hbmF htl hM4 hg0
    rintro e' w6 ⟨k, V, F, a, n, c, xs, nm, hk, hnk, hnm, g5, g6, g7, g8, g38, g39, g40, hg, hPD, htl, hM, bel6, hsz, hge, hbmF⟩
    have hn : V.T.length ≤ 64 := by rw [hg.well.len]; omega
    have hstp := hg.steps
    by_cases hlt : k < l1.length
    · have hlt' : (k : Int) < l1.length := by omega
      have k1 := IntWalk.i64_in ((k : Int) + 1) (by omega)
      obtain ⟨bA, oA, rfl, hcell, hoff⟩ := (in1.next bel6).get hlt
      obtain ⟨A, hA⟩ : ∃ A, A = l1[k] := ⟨_, rfl⟩
      rw [← hA] at hcell hoff
      have hld := ldCells (P := Tryd.prog) (w := w6) (g := bA) (o := oA + k * 2) (cs := A.cs) Tryd.underlying32 rfl pactI rfl hcell
      have hst := pactNew A
      simp -implicitDefEqProofs [go_sem, g5, g6, g7, g8, g38, g39, g40, hlt, hlt', ↓hld, ↓hst]
      generalize hw7 : World.alloc w6 _ = w7 at *
      obtain ⟨hB7, b7, sz7⟩ := new_facts hw7
      have bel7 := bel6.trans (b7.mono bel6.size)
      replace hPD := hPD.next b7
      replace htl := htl.next b7
      replace hM := hM.next b7
      have hsz7 : B ≤ w7.heap.size := Nat.le_trans hsz b7.size
      rcases mod4_cases A.kind with hr | hr | hr | hr
      · obtain ⟨d, hd12, hdw⟩ : ∃ d : Nat, (d = 1 ∨ d = 2) ∧ IntKind.i64.wrap (1 + IntKind.i64.wrap (uv 0#8)) = (d : Int) := ⟨1, .inl rfl, by decide +kernel⟩
        have hres := poolReserve_calls V d hd12 w7 hPD (hT.next bel7) hn hdat
        simp -implicitDefEqProofs [go_sem, g5, g6, g7, g8, g38, g39, g40, hB7.cell, A.c0, A.c1, hr, hdw]
        refine callE_of hres ?_
        rintro v w8 ⟨rfl, hPD8, t8⟩
        have htl8 := htl.turn (turn_m t8)
        have hM8 := hM.mod t8.mod hbmF
        have bel8 := bel7.trans (t8.mod.below bel7.size hge)
        have hg8 := hg.reserve (shN m) hd12
        have h00 := (well_reserve (s := shN m) hg.well hd12).2
        have hsf := res_sizeF (s := shN m) hg.well hd12
        obtain ⟨y, hy1, hy2⟩ := res_small hg.well hm4 hd12
        obtain ⟨R, hR⟩ : ∃ R, R = reserveV (shN m) V d := ⟨_, rfl⟩
        rw [← hR] at hPD8 hg8 h00 hy1 hsf ⊢
        obtain ⟨V1, x, e⟩ := R
        dsimp only at hPD8 hg8 h00 hy1 hsf ⊢
        subst hy1
        have hsz8 := Nat.le_trans hsz7 t8.size
        have hyI : I64 (y : Int) := by unfold I64; omega
        rcases h00 with rfl | ⟨rfl, rfl⟩
        · obtain ⟨hsf1, hsf2⟩ := hsf rfl
          have hlook := hM8.look (t := 29) Tryd.underlying29 hyI
          rw [hsf1] at hlook
          obtain ⟨Ld, hLd, hLd0, hLd4, -⟩ := lines_bl hd12
          have u1 := IntWalk.i64_in (64 * (Ld : Int)) (by omega)
          simp -implicitDefEqProofs [go_sem, g5, g6, g7, g8, g38, g39, g40, hlook]
          refine callE_of (refLines_calls (d : Int) w8) ?_
          rintro v w9 ⟨rfl, rfl⟩
          rw [hLd] at hsf2 ⊢
          obtain ⟨w10, hr10, hM10, hg10⟩ := hM8.put (t := 29) Tryd.underlying29 (by unfold maxLen; omega) hyI (v := 64 * (Ld : Int)) (by unfold I64; omega) (by omega)
          have hM10 := hM10.congr (g := sizeF (shN m) m (bF V1.T V1.H)) (fun z _ => hsf2 z)
          have hPD10 := hPD8.mod (mod_of_grown hg10) (fun k hk e => hbmF (by cases e; exact hk))
          have htl10 := htl8.mod (mod_of_grown hg10) (fun g hg e => htl8.away g hg (by cases e; exact .inr rfl))
          have bel10 := bel8.trans ((mod_of_grown hg10).below bel8.size (fun k e => by cases e; exact hbm0))
          have hsz10 := Nat.le_trans hsz8 hg10.size
          obtain ⟨gn, c11, w11, hr11, htl11, b11, K, m11, hK1, hK2⟩ := htl10.push (by omega) hsz10 (fun k hk => by rcases hk with hk | hk; exact hPD10.lt k hk; rw [hk]; exact hM10.lt) y hy2
          simp -implicitDefEqProofs [go_sem, g5, g6, g7, g8, g38, g39, g40, u1, hr10, hr11]
          have hgT := hg8.mono (k' := k + 1) (by omega)
          have hPDT := hPD10.mod m11 (fun k hk h => hK1 k (.inl hk) h)
          have hMT := hM10.mod m11 (fun h => hK1 bm (.inr rfl) h)
          have belT := bel10.trans (b11.mono hB0)
          have hszT := Nat.le_trans hsz10 m11.size
          have htlT := htl11
          have hgeT := hge
          have hbmT := hbmF
          clear hPD hPD8 hPD10 hM hM8 hM10 htl htl8 htl10 htl11 hg hg8 hsf2 hlook hres
          refine callE_of (poolShape_calls w11 hPDT.pool) ?_
          rintro v w20 ⟨rfl, b20⟩
          have bel20 := belT.trans (b20.mono belT.size)
          have hPD20 := hPDT.next b20
          have htl20 := htlT.next b20
          have hM20 := hMT.next b20
          have hsz20 := Nat.le_trans hszT b20.size
          simp -implicitDefEqProofs [go_sem, g5, g6, g7, g8, g38, g39, g40, ↓stShape (shN m)]
          generalize hw21 : World.alloc w20 _ = w21 at *
          obtain ⟨hB21, b21, sz21⟩ := new_facts hw21
          have bel21 := bel20.trans (b21.mono bel20.size)
          replace hPD20 := hPD20.next b21
          replace htl20 := htl20.next b21
          replace hM20 := hM20.next b21
          have hlt21 : ∀ k, PdK b tb hb F k → k < w20.heap.size := fun k hk => Nat.lt_of_lt_of_le (hPDT.lt k hk) b20.size
          have hbmlt20 : bm < w20.heap.size := Nat.lt_of_lt_of_le hMT.lt b20.size
          have hown20 : ∀ g, Value.ownBlock (.slice (some ⟨gn, 0, none⟩) (n + 1) c11) = some g → g < w20.heap.size := fun g hg => Nat.lt_of_lt_of_le (htlT.own.lt g hg).2 b20.size
          obtain ⟨gs, hgs⟩ : ∃ g, g = w20.heap.size := ⟨_, rfl⟩
          rw [← hgs] at hB21 hlt21 hbmlt20 hown20 hsz20 ⊢
          have hR21 : Rest w0 w21 m b p tb tc hb hc V1 F B bm (some ⟨gn, 0, none⟩) (n + 1) c11 (xs ++ [y]) gs := ⟨hPD20, htl20, hB21, bel21, by have := b21.size; omega⟩
          have hsz21 : gs < w21.heap.size := hB21.lt
          simp -implicitDefEqProofs [go_sem, g5, g6, g7, g8, g38, g39, g40, run_makeMap]
          have hMa := mapI_made w21
          have hm22 : Below w21.heap.size w21 (w21.alloc (.map #[] 0)) := (Below.refl _ _).alloc (Nat.le_refl _) _
          have hsz22 : (w21.alloc (.map #[] 0)).heap.size = w21.heap.size + 1 := by simp
          obtain ⟨ba, hba⟩ : ∃ g, g = w21.heap.size := ⟨_, rfl⟩
          have hR22 := hR21.mod (Mod.of (F := fun _ => False) hm22) (fun _ _ h => h) (fun _ _ h => h) (fun h => h) (fun _ h => h.elim)
          have hM22 := hM20.next hm22
          rw [← hba] at hMa hsz22 hsz21 ⊢
          generalize hw22 : World.alloc w21 _ = w22 at *
          obtain ⟨w23, left, cnt, hr23, hrg23, hlf23, hg23, hs23, hcnt23⟩ := hM22.range Tryd.underlying29
          obtain ⟨rr, hrr⟩ : ∃ g, g = w22.heap.size := ⟨_, rfl⟩
          rw [← hrr] at hr23 hrg23 hs23
          have hb23 : Below w22.heap.size w22 w23 := (mod_of_grown hg23).below (Nat.le_refl _) (fun k e => by cases e)
          have hR23 := hR22.mod (Mod.of (F := fun _ => False) hb23) (fun _ _ h => h) (fun _ _ h => h) (fun h => h) (fun _ h => h.elim)
          have hMa23 := hMa.next hb23
          simp -implicitDefEqProofs [go_sem, g5, g6, g7, g8, g38, g39, g40, hr23]
          refine wpE_loop (fun e2 w' => ∃ (left : Int → Bool) (cnt na : Nat) (g : Int → Int), na + 5 * cnt ≤ 5 * (nm + 1) ∧ e2 5 = .pointer (some ⟨p, 0, none⟩) ∧ e2 6 = .pointer (some ⟨b, 0, none⟩) ∧ e2 7 = .map (some bm) ∧ e2 8 = .slice (some ⟨gn, 0, none⟩) (n + 1) c11 ∧ e2 15 = .pointer (some ⟨gs, 0, none⟩) ∧ e2 16 = .map (some ba) ∧
            e2 38 = .slice (some ⟨bA, oA, none⟩) l1.length cap1 ∧ e2 39 = .int .i64 (l1.length : Int) ∧ e2 40 = .int .i64 (k : Int) ∧ e2 131 = .pointer (some ⟨rr, 0, none⟩) ∧
            Rest w0 w' m b p tb tc hb hc V1 F B bm (some ⟨gn, 0, none⟩) (n + 1) c11 (xs ++ [y]) gs ∧ RangeI w' bm rr (nm + 1) (sizeF (shN m) m (bF V1.T V1.H)) left cnt ∧ MapI w' ba na g ∧ QI (sizeF (shN m) m (bF V1.T V1.H)) left g) (fun _ w' => w'.rangeLeft bm rr) ?_ ?_
          · refine ⟨left, cnt, 0, fun _ => 0, by omega, ?_⟩
            simp -implicitDefEqProofs [go_sem, g5, g6, g7, g8, g38, g39, g40]
            exact ⟨hR23, hrg23, hMa23, fun z _ h => absurd rfl h⟩
          · clear hR21 hR22 hR23 hMa hMa23 hM22 hM20 hrg23 hlf23 hPD20 htl20 hPDT htlT hMT
            rintro e2 w24 ⟨left, cnt, na, g, hna, q5, q6, q7, q8, q15, q16, q38, q39, q40, q131, hR, hrg, hMa, hQ⟩
            rcases hrg.step 0 with ⟨h0, hnx⟩ | ⟨x, w25, cnt', hx, hfx, hfI, hlx, hnx, hrg25, hlt25, hg25, hs25, hen⟩
            · simp -implicitDefEqProofs [go_sem, q5, q6, q7, q8, q15, q16, q38, q39, q40, q131, hnx, k1]
              refine goE_round ⟨k + 1, V1, F, (some ⟨gn, 0, none⟩), (n + 1), c11, (xs ++ [y]), (nm + 1), by omega, by omega, by omega, ?_⟩ ?_
              · simp -implicitDefEqProofs [go_sem, q5, q6, q7, q8, q15, q16, q38, q39, q40, q131, k1]
                exact ⟨hgT, hR.pd, hR.tl, hrg.owns, hR.bel, hR.sz, hgeT, hbmT⟩
              · simp -implicitDefEqProofs [go_sem, intOf, g40, q40, k1]; omega
            · obtain ⟨z1, z2, z3, z4, z5⟩ := size_in (s := shN m) (n := m) (B := bF V1.T V1.H) (x := x) (by have := sizeF_nn (s := shN m) (n := m) (B := bF V1.T V1.H) (y := x); omega)
              rw [show (shN m).data = 192 from rfl] at z1 z2 z3
              have hR25 := hR.one hg25 (fun h => by have := hlt21 _ h; omega) (fun h => by have := hown20 _ h; omega) (by omega) (by have := bel20.size; omega)
              have hMa25 := hMa.mod (mod_of_grown hg25) (fun e => by cases e; omega)
              have hrl : w25.rangeLeft bm rr = cnt' := hrg25.left_eq
              have hrl0 : w24.rangeLeft bm rr = cnt := hrg.left_eq
              have hfx0 : 0 < sizeF (shN m) m (bF V1.T V1.H) x := by have := sizeF_nn (s := shN m) (n := m) (B := bF V1.T V1.H) (y := x); omega
              have hfresh := fun (g : Int → Int) (j : Nat) (h : QJ (sizeF (shN m) m (bF V1.T V1.H)) left x j g) => qj_fresh h hfx hlx (j := j)
              have hQ0 := qj_zero (x := x) hQ
              obtain ⟨f, hf⟩ : ∃ f, f = sizeF (shN m) m (bF V1.T V1.H) := ⟨_, rfl⟩
              rw [← hf] at z2 z4 z5 hfx hfI hnx hrg25 hen hfx0 hfresh hQ0
              rw [← hf]
              obtain ⟨kx, hkx⟩ : ∃ z, z = f x := ⟨_, rfl⟩
              rw [← hkx] at z2 z4 z5 hfI hnx hen hfx0
              have t1 : ¬ x < 192 := by omega
              have t2 := IntWalk.i64_in (x + kx) (by omega)
              have t3 := IntWalk.i64_in (1024 * (m : Int)) (by omega)
              have t4 := IntWalk.i64_in (192 + 1024 * (m : Int)) (by omega)
              have t5 : ¬ 192 + 1024 * (m : Int) < x + kx := by omega
              have t6 : x.tmod 64 = 0 := by rw [Int.tmod_eq_emod_of_nonneg (by omega)]; omega
              simp -implicitDefEqProofs [go_sem, q5, q6, q7, q8, q15, q16, q38, q39, q40, q131, hnx, hen, hR25.sh.cell, shapeC_1, shapeC_3, shN, t1, t2, t3, t4, t5, t6]
              refine wpE_loop (fun e3 w' => ∃ (j na' : Nat) (g : Int → Int) (z : Int), 64 * (j : Int) ≤ kx ∧ na' ≤ na + j ∧ z = x + 64 * (j : Int) ∧ e3 5 = .pointer (some ⟨p, 0, none⟩) ∧ e3 6 = .pointer (some ⟨b, 0, none⟩) ∧ e3 7 = .map (some bm) ∧ e3 8 = .slice (some ⟨gn, 0, none⟩) (n + 1) c11 ∧ e3 15 = .pointer (some ⟨gs, 0, none⟩) ∧ e3 16 = .map (some ba) ∧
                e3 17 = .int .i64 x ∧ e3 18 = .int .i64 kx ∧ e3 19 = .int .i64 z ∧ e3 38 = .slice (some ⟨bA, oA, none⟩) l1.length cap1 ∧ e3 39 = .int .i64 (l1.length : Int) ∧ e3 40 = .int .i64 (k : Int) ∧ e3 131 = .pointer (some ⟨rr, 0, none⟩) ∧
                Rest w0 w' m b p tb tc hb hc V1 F B bm (some ⟨gn, 0, none⟩) (n + 1) c11 (xs ++ [y]) gs ∧ RangeI w' bm rr (nm + 1) f (fun z => left z && !decide (z = x)) cnt' ∧ MapI w' ba na' g ∧ QJ f left x j g) (fun e3 _ => (x + kx - intOf (e3 19)).toNat) ?_ ?_
              · refine ⟨0, na, g, x, by omega, by omega, by omega, ?_⟩
                simp -implicitDefEqProofs [go_sem, q5, q6, q7, q8, q15, q16, q38, q39, q40, q131]
                exact ⟨hR25, hrg25, hMa25, hQ0⟩
              · clear hR25 hrg25 hMa25 hQ0 hQ hMa hrg hR
                rintro e3 w26 ⟨j, na', g, z, hj1, hj2, hz, p5, p6, p7, p8, p15, p16, p17, p18, p19, p38, p39, p40, p131, hR, hrg, hMa, hQJ⟩
                have t7 := IntWalk.i64_in (z + 64) (by omega)
                by_cases hjk : 64 * (j : Int) < kx
                · have t8 : z < x + kx := by omega
                  have hzI : I64 z := by unfold I64; omega
                  have hg0 : g z = 0 := by rw [hz]; exact hfresh g j hQJ (by omega) (by rw [← hz]; exact hzI)
                  have hl1 := hMa.look (t := 29) Tryd.underlying29 hzI
                  rw [hg0] at hl1
                  obtain ⟨w27, hr27, hMa27, hg27⟩ := hMa.put (t := 29) Tryd.underlying29 (by unfold maxLen; omega) hzI (v := 1) (by unfold I64; omega) (by omega)
                  have hl2 := hMa27.look (t := 29) Tryd.underlying29 hzI
                  rw [if_pos rfl] at hl2
                  have hR27 := hR.one hg27 (fun h => by have := hlt21 _ h; omega) (fun h => by have := hown20 _ h; omega) (by omega) (by have := bel20.size; omega)
                  have hrg27 := hrg.kept hg27 (fun e => by cases e; omega) (fun e => by cases e; omega)
                  have hQJ' := qj_succ hQJ
                  rw [← hz] at hQJ'
                  have t9 : IntKind.i64.wrap 1 = 1 := by decide
                  simp -implicitDefEqProofs [go_sem, p5, p6, p7, p8, p15, p16, p17, p18, p19, p38, p39, p40, p131, t2, t8, hl1, t9, hr27, hl2, t7]
                  refine goE_round ⟨j + 1, na' + 1, fun q => if q = z then 1 else g q, z + 64, by omega, by omega, by omega, ?_⟩ ?_
                  · simp -implicitDefEqProofs [go_sem, p5, p6, p7, p8, p15, p16, p17, p18, p19, p38, p39, p40, p131]
                    exact ⟨hR27, hrg27, hMa27, hQJ'⟩
                  · simp -implicitDefEqProofs [go_sem, intOf, p19, t7]; omega
                · have t8 : ¬ z < x + kx := by omega
                  have hQe := qj_end hQJ (by omega) (by omega)
                  have hrl2 : w26.rangeLeft bm rr = cnt' := hrg.left_eq
                  simp -implicitDefEqProofs [go_sem, p5, p6, p7, p8, p15, p16, p17, p18, p19, p38, p39, p40, p131, t2, t8]
                  refine goE_round ⟨fun z => left z && !decide (z = x), cnt', na', g, by omega, ?_⟩ ?_
                  · simp -implicitDefEqProofs [go_sem, p5, p6, p7, p8, p15, p16, p17, p18, p19, p38, p39, p40, p131]
                    exact ⟨hR, hrg, hMa, hQe⟩
                  · rw [hrl2, hrl0]; exact hlt25
        · simp -implicitDefEqProofs [go_sem, g5, g6, g7, g8, g38, g39, g40, k1]
          refine goE_round ⟨k + 1, V1, F, a, n, c, xs, nm, by omega, by omega, by omega, ?_⟩ ?_
          · simp -implicitDefEqProofs [go_sem, g5, g6, g7, g8, g38, g39, g40]
            exact ⟨hg8.mono (by omega), hPD8, htl8, hM8, bel8, hsz8, hge, hbmF⟩
          · simp -implicitDefEqProofs [go_sem, intOf, g40, k1]; omega
      · obtain ⟨d, hd12, hdw⟩ : ∃ d : Nat, (d = 1 ∨ d = 2) ∧ IntKind.i64.wrap (1 + IntKind.i64.wrap (uv 1#8)) = (d : Int) := ⟨2, .inr rfl, by decide +kernel⟩
        have hres := poolReserve_calls V d hd12 w7 hPD (hT.next bel7) hn hdat
        simp -implicitDefEqProofs [go_sem, g5, g6, g7, g8, g38, g39, g40, hB7.cell, A.c0, A.c1, hr, hdw]
        refine callE_of hres ?_
        rintro v w8 ⟨rfl, hPD8, t8⟩
        have htl8 := htl.turn (turn_m t8)
        have hM8 := hM.mod t8.mod hbmF
        have bel8 := bel7.trans (t8.mod.below bel7.size hge)
        have hg8 := hg.reserve (shN m) hd12
        have h00 := (well_reserve (s := shN m) hg.well hd12).2
        have hsf := res_sizeF (s := shN m) hg.well hd12
        obtain ⟨y, hy1, hy2⟩ := res_small hg.well hm4 hd12
        obtain ⟨R, hR⟩ : ∃ R, R = reserveV (shN m) V d := ⟨_, rfl⟩
        rw [← hR] at hPD8 hg8 h00 hy1 hsf ⊢
        obtain ⟨V1, x, e⟩ := R
        dsimp only at hPD8 hg8 h00 hy1 hsf ⊢
        subst hy1
        have hsz8 := Nat.le_trans hsz7 t8.size
        have hyI : I64 (y : Int) := by unfold I64; omega
        rcases h00 with rfl | ⟨rfl, rfl⟩
        · obtain ⟨hsf1, hsf2⟩ := hsf rfl
          have hlook := hM8.look (t := 29) Tryd.underlying29 hyI
          rw [hsf1] at hlook
          obtain ⟨Ld, hLd, hLd0, hLd4, -⟩ := lines_bl hd12
          have u1 := IntWalk.i64_in (64 * (Ld : Int)) (by omega)
          simp -implicitDefEqProofs [go_sem, g5, g6, g7, g8, g38, g39, g40, hlook]
          refine callE_of (refLines_calls (d : Int) w8) ?_
          rintro v w9 ⟨rfl, rfl⟩
          rw [hLd] at hsf2 ⊢
          obtain ⟨w10, hr10, hM10, hg10⟩ := hM8.put (t := 29) Tryd.underlying29 (by unfold maxLen; omega) hyI (v := 64 * (Ld : Int)) (by unfold I64; omega) (by omega)
          have hM10 := hM10.congr (g := sizeF (shN m) m (bF V1.T V1.H)) (fun z _ => hsf2 z)
          have hPD10 := hPD8.mod (mod_of_grown hg10) (fun k hk e => hbmF (by cases e; exact hk))
          have htl10 := htl8.mod (mod_of_grown hg10) (fun g hg e => htl8.away g hg (by cases e; exact .inr rfl))
          have bel10 := bel8.trans ((mod_of_grown hg10).below bel8.size (fun k e => by cases e; exact hbm0))
          have hsz10 := Nat.le_trans hsz8 hg10.size
          obtain ⟨gn, c11, w11, hr11, htl11, b11, K, m11, hK1, hK2⟩ := htl10.push (by omega) hsz10 (fun k hk => by rcases hk with hk | hk; exact hPD10.lt k hk; rw [hk]; exact hM10.lt) y hy2
          simp -implicitDefEqProofs [go_sem, g5, g6, g7, g8, g38, g39, g40, u1, hr10, hr11]
          have hgT := hg8.mono (k' := k + 1) (by omega)
          have hPDT := hPD10.mod m11 (fun k hk h => hK1 k (.inl hk) h)
          have hMT := hM10.mod m11 (fun h => hK1 bm (.inr rfl) h)
          have belT := bel10.trans (b11.mono hB0)
          have hszT := Nat.le_trans hsz10 m11.size
          have htlT := htl11
          have hgeT := hge
          have hbmT := hbmF
          clear hPD hPD8 hPD10 hM hM8 hM10 htl htl8 htl10 htl11 hg hg8 hsf2 hlook hres
          refine callE_of (poolShape_calls w11 hPDT.pool) ?_
          rintro v w20 ⟨rfl, b20⟩
          have bel20 := belT.trans (b20.mono belT.size)
          have hPD20 := hPDT.next b20
          have htl20 := htlT.next b20
          have hM20 := hMT.next b20
          have hsz20 := Nat.le_trans hszT b20.size
          simp -implicitDefEqProofs [go_sem, g5, g6, g7, g8, g38, g39, g40, ↓stShape (shN m)]
          generalize hw21 : World.alloc w20 _ = w21 at *
          obtain ⟨hB21, b21, sz21⟩ := new_facts hw21
          have bel21 := bel20.trans (b21.mono bel20.size)
          replace hPD20 := hPD20.next b21
          replace htl20 := htl20.next b21
          replace hM20 := hM20.next b21
          have hlt21 : ∀ k, PdK b tb hb F k → k < w20.heap.size := fun k hk => Nat.lt_of_lt_of_le (hPDT.lt k hk) b20.size
          have hbmlt20 : bm < w20.heap.size := Nat.lt_of_lt_of_le hMT.lt b20.size
          have hown20 : ∀ g, Value.ownBlock (.slice (some ⟨gn, 0, none⟩) (n + 1) c11) = some g → g < w20.heap.size := fun g hg => Nat.lt_of_lt_of_le (htlT.own.lt g hg).2 b20.size
          obtain ⟨gs, hgs⟩ : ∃ g, g = w20.heap.size := ⟨_, rfl⟩
          rw [← hgs] at hB21 hlt21 hbmlt20 hown20 hsz20 ⊢
          have hR21 : Rest w0 w21 m b p tb tc hb hc V1 F B bm (some ⟨gn, 0, none⟩) (n + 1) c11 (xs ++ [y]) gs := ⟨hPD20, htl20, hB21, bel21, by have := b21.size; omega⟩
          have hsz21 : gs < w21.heap.size := hB21.lt
          simp -implicitDefEqProofs [go_sem, g5, g6, g7, g8, g38, g39, g40, run_makeMap]
          have hMa := mapI_made w21
          have hm22 : Below w21.heap.size w21 (w21.alloc (.map #[] 0)) := (Below.refl _ _).alloc (Nat.le_refl _) _
          have hsz22 : (w21.alloc (.map #[] 0)).heap.size = w21.heap.size + 1 := by simp
          obtain ⟨ba, hba⟩ : ∃ g, g = w21.heap.size := ⟨_, rfl⟩
          have hR22 := hR21.mod (Mod.of (F := fun _ => False) hm22) (fun _ _ h => h) (fun _ _ h => h) (fun h => h) (fun _ h => h.elim)
          have hM22 := hM20.next hm22
          rw [← hba] at hMa hsz22 hsz21 ⊢
          generalize hw22 : World.alloc w21 _ = w22 at *
          obtain ⟨w23, left, cnt, hr23, hrg23, hlf23, hg23, hs23, hcnt23⟩ := hM22.range Tryd.underlying29
          obtain ⟨rr, hrr⟩ : ∃ g, g = w22.heap.size := ⟨_, rfl⟩
          rw [← hrr] at hr23 hrg23 hs23
          have hb23 : Below w22.heap.size w22 w23 := (mod_of_grown hg23).below (Nat.le_refl _) (fun k e => by cases e)
          have hR23 := hR22.mod (Mod.of (F := fun _ => False) hb23) (fun _ _ h => h) (fun _ _ h => h) (fun h => h) (fun _ h => h.elim)
          have hMa23 := hMa.next hb23
          simp -implicitDefEqProofs [go_sem, g5, g6, g7, g8, g38, g39, g40, hr23]
          refine wpE_loop (fun e2 w' => ∃ (left : Int → Bool) (cnt na : Nat) (g : Int → Int), na + 5 * cnt ≤ 5 * (nm + 1) ∧ e2 5 = .pointer (some ⟨p, 0, none⟩) ∧ e2 6 = .pointer (some ⟨b, 0, none⟩) ∧ e2 7 = .map (some bm) ∧ e2 8 = .slice (some ⟨gn, 0, none⟩) (n + 1) c11 ∧ e2 15 = .pointer (some ⟨gs, 0, none⟩) ∧ e2 16 = .map (some ba) ∧
            e2 38 = .slice (some ⟨bA, oA, none⟩) l1.length cap1 ∧ e2 39 = .int .i64 (l1.length : Int) ∧ e2 40 = .int .i64 (k : Int) ∧ e2 131 = .pointer (some ⟨rr, 0, none⟩) ∧
            Rest w0 w' m b p tb tc hb hc V1 F B bm (some ⟨gn, 0, none⟩) (n + 1) c11 (xs ++ [y]) gs ∧ RangeI w' bm rr (nm + 1) (sizeF (shN m) m (bF V1.T V1.H)) left cnt ∧ MapI w' ba na g ∧ QI (sizeF (shN m) m (bF V1.T V1.H)) left g) (fun _ w' => w'.rangeLeft bm rr) ?_ ?_
          · refine ⟨left, cnt, 0, fun _ => 0, by omega, ?_⟩
            simp -implicitDefEqProofs [go_sem, g5, g6, g7, g8, g38, g39, g40]
            exact ⟨hR23, hrg23, hMa23, fun z _ h => absurd rfl h⟩
          · clear hR21 hR22 hR23 hMa hMa23 hM22 hM20 hrg23 hlf23 hPD20 htl20 hPDT htlT hMT
            rintro e2 w24 ⟨left, cnt, na, g, hna, q5, q6, q7, q8, q15, q16, q38, q39, q40, q131, hR, hrg, hMa, hQ⟩
            rcases hrg.step 0 with ⟨h0, hnx⟩ | ⟨x, w25, cnt', hx, hfx, hfI, hlx, hnx, hrg25, hlt25, hg25, hs25, hen⟩
            · simp -implicitDefEqProofs [go_sem, q5, q6, q7, q8, q15, q16, q38, q39, q40, q131, hnx, k1]
              refine goE_round ⟨k + 1, V1, F, (some ⟨gn, 0, none⟩), (n + 1), c11, (xs ++ [y]), (nm + 1), by omega, by omega, by omega, ?_⟩ ?_
              · simp -implicitDefEqProofs [go_sem, q5, q6, q7, q8, q15, q16, q38, q39, q40, q131, k1]
                exact ⟨hgT, hR.pd, hR.tl, hrg.owns, hR.bel, hR.sz, hgeT, hbmT⟩
              · simp -implicitDefEqProofs [go_sem, intOf, g40, q40, k1]; omega
            · obtain ⟨z1, z2, z3, z4, z5⟩ := size_in (s := shN m) (n := m) (B := bF V1.T V1.H) (x := x) (by have := sizeF_nn (s := shN m) (n := m) (B := bF V1.T V1.H) (y := x); omega)
              rw [show (shN m).data = 192 from rfl] at z1 z2 z3
              have hR25 := hR.one hg25 (fun h => by have := hlt21 _ h; omega) (fun h => by have := hown20 _ h; omega) (by omega) (by have := bel20.size; omega)
              have hMa25 := hMa.mod (mod_of_grown hg25) (fun e => by cases e; omega)
              have hrl : w25.rangeLeft bm rr = cnt' := hrg25.left_eq
              have hrl0 : w24.rangeLeft bm rr = cnt := hrg.left_eq
              have hfx0 : 0 < sizeF (shN m) m (bF V1.T V1.H) x := by have := sizeF_nn (s := shN m) (n := m) (B := bF V1.T V1.H) (y := x); omega
              have hfresh := fun (g : Int → Int) (j : Nat) (h : QJ (sizeF (shN m) m (bF V1.T V1.H)) left x j g) => qj_fresh h hfx hlx (j := j)
              have hQ0 := qj_zero (x := x) hQ
              obtain ⟨f, hf⟩ : ∃ f, f = sizeF (shN m) m (bF V1.T V1.H) := ⟨_, rfl⟩
              rw [← hf] at z2 z4 z5 hfx hfI hnx hrg25 hen hfx0 hfresh hQ0
              rw [← hf]
              obtain ⟨kx, hkx⟩ : ∃ z, z = f x := ⟨_, rfl⟩
              rw [← hkx] at z2 z4 z5 hfI hnx hen hfx0
              have t1 : ¬ x < 192 := by omega
              have t2 := IntWalk.i64_in (x + kx) (by omega)
              have t3 := IntWalk.i64_in (1024 * (m : Int)) (by omega)
              have t4 := IntWalk.i64_in (192 + 1024 * (m : Int)) (by omega)
              have t5 : ¬ 192 + 1024 * (m : Int) < x + kx := by omega
              have t6 : x.tmod 64 = 0 := by rw [Int.tmod_eq_emod_of_nonneg (by omega)]; omega
              simp -implicitDefEqProofs [go_sem, q5, q6, q7, q8, q15, q16, q38, q39, q40, q131, hnx, hen, hR25.sh.cell, shapeC_1, shapeC_3, shN, t1, t2, t3, t4, t5, t6]
              refine wpE_loop (fun e3 w' => ∃ (j na' : Nat) (g : Int → Int) (z : Int), 64 * (j : Int) ≤ kx ∧ na' ≤ na + j ∧ z = x + 64 * (j : Int) ∧ e3 5 = .pointer (some ⟨p, 0, none⟩) ∧ e3 6 = .pointer (some ⟨b, 0, none⟩) ∧ e3 7 = .map (some bm) ∧ e3 8 = .slice (some ⟨gn, 0, none⟩) (n + 1) c11 ∧ e3 15 = .pointer (some ⟨gs, 0, none⟩) ∧ e3 16 = .map (some ba) ∧
                e3 17 = .int .i64 x ∧ e3 18 = .int .i64 kx ∧ e3 19 = .int .i64 z ∧ e3 38 = .slice (some ⟨bA, oA, none⟩) l1.length cap1 ∧ e3 39 = .int .i64 (l1.length : Int) ∧ e3 40 = .int .i64 (k : Int) ∧ e3 131 = .pointer (some ⟨rr, 0, none⟩) ∧
                Rest w0 w' m b p tb tc hb hc V1 F B bm (some ⟨gn, 0, none⟩) (n + 1) c11 (xs ++ [y]) gs ∧ RangeI w' bm rr (nm + 1) f (fun z => left z && !decide (z = x)) cnt' ∧ MapI w' ba na' g ∧ QJ f left x j g) (fun e3 _ => (x + kx - intOf (e3 19)).toNat) ?_ ?_
              · refine ⟨0, na, g, x, by omega, by omega, by omega, ?_⟩
                simp -implicitDefEqProofs [go_sem, q5, q6, q7, q8, q15, q16, q38, q39, q40, q131]
                exact ⟨hR25, hrg25, hMa25, hQ0⟩
              · clear hR25 hrg25 hMa25 hQ0 hQ hMa hrg hR
                rintro e3 w26 ⟨j, na', g, z, hj1, hj2, hz, p5, p6, p7, p8, p15, p16, p17, p18, p19, p38, p39, p40, p131, hR, hrg, hMa, hQJ⟩
                have t7 := IntWalk.i64_in (z + 64) (by omega)
                by_cases hjk : 64 * (j : Int) < kx
                · have t8 : z < x + kx := by omega
                  have hzI : I64 z := by unfold I64; omega
                  have hg0 : g z = 0 := by rw [hz]; exact hfresh g j hQJ (by omega) (by rw [← hz]; exact hzI)
                  have hl1 := hMa.look (t := 29) Tryd.underlying29 hzI
                  rw [hg0] at hl1
                  obtain ⟨w27, hr27, hMa27, hg27⟩ := hMa.put (t := 29) Tryd.underlying29 (by unfold maxLen; omega) hzI (v := 1) (by unfold I64; omega) (by omega)
                  have hl2 := hMa27.look (t := 29) Tryd.underlying29 hzI
                  rw [if_pos rfl] at hl2
                  have hR27 := hR.one hg27 (fun h => by have := hlt21 _ h; omega) (fun h => by have := hown20 _ h; omega) (by omega) (by have := bel20.size; omega)
                  have hrg27 := hrg.kept hg27 (fun e => by cases e; omega) (fun e => by cases e; omega)
                  have hQJ' := qj_succ hQJ
                  rw [← hz] at hQJ'
                  have t9 : IntKind.i64.wrap 1 = 1 := by decide
                  simp -implicitDefEqProofs [go_sem, p5, p6, p7, p8, p15, p16, p17, p18, p19, p38, p39, p40, p131, t2, t8, hl1, t9, hr27, hl2, t7]
                  refine goE_round ⟨j + 1, na' + 1, fun q => if q = z then 1 else g q, z + 64, by omega, by omega, by omega, ?_⟩ ?_
                  · simp -implicitDefEqProofs [go_sem, p5, p6, p7, p8, p15, p16, p17, p18, p19, p38, p39, p40, p131]
                    exact ⟨hR27, hrg27, hMa27, hQJ'⟩
                  · simp -implicitDefEqProofs [go_sem, intOf, p19, t7]; omega
                · have t8 : ¬ z < x + kx := by omega
                  have hQe := qj_end hQJ (by omega) (by omega)
                  have hrl2 : w26.rangeLeft bm rr = cnt' := hrg.left_eq
                  simp -implicitDefEqProofs [go_sem, p5, p6, p7, p8, p15, p16, p17, p18, p19, p38, p39, p40, p131, t2, t8]
                  refine goE_round ⟨fun z => left z && !decide (z = x), cnt', na', g, by omega, ?_⟩ ?_
                  · simp -implicitDefEqProofs [go_sem, p5, p6, p7, p8, p15, p16, p17, p18, p19, p38, p39, p40, p131]
                    exact ⟨hR, hrg, hMa, hQe⟩
                  · rw [hrl2, hrl0]; exact hlt25
        · simp -implicitDefEqProofs [go_sem, g5, g6, g7, g8, g38, g39, g40, k1]
          refine goE_round ⟨k + 1, V1, F, a, n, c, xs, nm, by omega, by omega, by omega, ?_⟩ ?_
          · simp -implicitDefEqProofs [go_sem, g5, g6, g7, g8, g38, g39, g40]
            exact ⟨hg8.mono (by omega), hPD8, htl8, hM8, bel8, hsz8, hge, hbmF⟩
          · simp -implicitDefEqProofs [go_sem, intOf, g40, k1]; omega
      · simp -implicitDefEqProofs [go_sem, g5, g6, g7, g8, hB7.cell, A.c0, A.c1, hr]
        by_cases hn0 : n = 0
        · subst hn0
          simp -implicitDefEqProofs [go_sem, g5, g6, g7, g8, g38, g39, g40]
          have hgT := hg.mono (k' := k + 1) (by omega)
          have hPDT := hPD
          have htlT := htl
          have hMT := hM
          have belT := bel7
          have hszT := hsz7
          have hgeT := hge
          have hbmT := hbmF
          clear hPD htl hM hg
          refine callE_of (poolShape_calls w7 hPDT.pool) ?_
          rintro v w20 ⟨rfl, b20⟩
          have bel20 := belT.trans (b20.mono belT.size)
          have hPD20 := hPDT.next b20
          have htl20 := htlT.next b20
          have hM20 := hMT.next b20
          have hsz20 := Nat.le_trans hszT b20.size
          simp -implicitDefEqProofs [go_sem, g5, g6, g7, g8, g38, g39, g40, ↓stShape (shN m)]
          generalize hw21 : World.alloc w20 _ = w21 at *
          obtain ⟨hB21, b21, sz21⟩ := new_facts hw21
          have bel21 := bel20.trans (b21.mono bel20.size)
          replace hPD20 := hPD20.next b21
          replace htl20 := htl20.next b21
          replace hM20 := hM20.next b21
          have hlt21 : ∀ k, PdK b tb hb F k → k < w20.heap.size := fun k hk => Nat.lt_of_lt_of_le (hPDT.lt k hk) b20.size
          have hbmlt20 : bm < w20.heap.size := Nat.lt_of_lt_of_le hMT.lt b20.size
          have hown20 : ∀ g, Value.ownBlock (.slice a 0 c) = some g → g < w20.heap.size := fun g hg => Nat.lt_of_lt_of_le (htlT.own.lt g hg).2 b20.size
          obtain ⟨gs, hgs⟩ : ∃ g, g = w20.heap.size := ⟨_, rfl⟩
          rw [← hgs] at hB21 hlt21 hbmlt20 hown20 hsz20 ⊢
          have hR21 : Rest w0 w21 m b p tb tc hb hc V F B bm a 0 c xs gs := ⟨hPD20, htl20, hB21, bel21, by have := b21.size; omega⟩
          have hsz21 : gs < w21.heap.size := hB21.lt
          simp -implicitDefEqProofs [go_sem, g5, g6, g7, g8, g38, g39, g40, run_makeMap]
          have hMa := mapI_made w21
          have hm22 : Below w21.heap.size w21 (w21.alloc (.map #[] 0)) := (Below.refl _ _).alloc (Nat.le_refl _) _
          have hsz22 : (w21.alloc (.map #[] 0)).heap.size = w21.heap.size + 1 := by simp
          obtain ⟨ba, hba⟩ : ∃ g, g = w21.heap.size := ⟨_, rfl⟩
          have hR22 := hR21.mod (Mod.of (F := fun _ => False) hm22) (fun _ _ h => h) (fun _ _ h => h) (fun h => h) (fun _ h => h.elim)
          have hM22 := hM20.next hm22
          rw [← hba] at hMa hsz22 hsz21 ⊢
          generalize hw22 : World.alloc w21 _ = w22 at *
          obtain ⟨w23, left, cnt, hr23, hrg23, hlf23, hg23, hs23, hcnt23⟩ := hM22.range Tryd.underlying29
          obtain ⟨rr, hrr⟩ : ∃ g, g = w22.heap.size := ⟨_, rfl⟩
          rw [← hrr] at hr23 hrg23 hs23
          have hb23 : Below w22.heap.size w22 w23 := (mod_of_grown hg23).below (Nat.le_refl _) (fun k e => by cases e)
          have hR23 := hR22.mod (Mod.of (F := fun _ => False) hb23) (fun _ _ h => h) (fun _ _ h => h) (fun h => h) (fun _ h => h.elim)
          have hMa23 := hMa.next hb23
          simp -implicitDefEqProofs [go_sem, g5, g6, g7, g8, g38, g39, g40, hr23]
          refine wpE_loop (fun e2 w' => ∃ (left : Int → Bool) (cnt na : Nat) (g : Int → Int), na + 5 * cnt ≤ 5 * nm ∧ e2 5 = .pointer (some ⟨p, 0, none⟩) ∧ e2 6 = .pointer (some ⟨b, 0, none⟩) ∧ e2 7 = .map (some bm) ∧ e2 8 = .slice a 0 c ∧ e2 15 = .pointer (some ⟨gs, 0, none⟩) ∧ e2 16 = .map (some ba) ∧
            e2 38 = .slice (some ⟨bA, oA, none⟩) l1.length cap1 ∧ e2 39 = .int .i64 (l1.length : Int) ∧ e2 40 = .int .i64 (k : Int) ∧ e2 131 = .pointer (some ⟨rr, 0, none⟩) ∧
            Rest w0 w' m b p tb tc hb hc V F B bm a 0 c xs gs ∧ RangeI w' bm rr nm (sizeF (shN m) m (bF V.T V.H)) left cnt ∧ MapI w' ba na g ∧ QI (sizeF (shN m) m (bF V.T V.H)) left g) (fun _ w' => w'.rangeLeft bm rr) ?_ ?_
          · refine ⟨left, cnt, 0, fun _ => 0, by omega, ?_⟩
            simp -implicitDefEqProofs [go_sem, g5, g6, g7, g8, g38, g39, g40]
            exact ⟨hR23, hrg23, hMa23, fun z _ h => absurd rfl h⟩
          · clear hR21 hR22 hR23 hMa hMa23 hM22 hM20 hrg23 hlf23 hPD20 htl20 hPDT htlT hMT
            rintro e2 w24 ⟨left, cnt, na, g, hna, q5, q6, q7, q8, q15, q16, q38, q39, q40, q131, hR, hrg, hMa, hQ⟩
            rcases hrg.step 0 with ⟨h0, hnx⟩ | ⟨x, w25, cnt', hx, hfx, hfI, hlx, hnx, hrg25, hlt25, hg25, hs25, hen⟩
            · simp -implicitDefEqProofs [go_sem, q5, q6, q7, q8, q15, q16, q38, q39, q40, q131, hnx, k1]
              refine goE_round ⟨k + 1, V, F, a, 0, c, xs, nm, by omega, by omega, by omega, ?_⟩ ?_
              · simp -implicitDefEqProofs [go_sem, q5, q6, q7, q8, q15, q16, q38, q39, q40, q131, k1]
                exact ⟨hgT, hR.pd, hR.tl, hrg.owns, hR.bel, hR.sz, hgeT, hbmT⟩
              · simp -implicitDefEqProofs [go_sem, intOf, g40, q40, k1]; omega
            · obtain ⟨z1, z2, z3, z4, z5⟩ := size_in (s := shN m) (n := m) (B := bF V.T V.H) (x := x) (by have := sizeF_nn (s := shN m) (n := m) (B := bF V.T V.H) (y := x); omega)
              rw [show (shN m).data = 192 from rfl] at z1 z2 z3
              have hR25 := hR.one hg25 (fun h => by have := hlt21 _ h; omega) (fun h => by have := hown20 _ h; omega) (by omega) (by have := bel20.size; omega)
              have hMa25 := hMa.mod (mod_of_grown hg25) (fun e => by cases e; omega)
              have hrl : w25.rangeLeft bm rr = cnt' := hrg25.left_eq
              have hrl0 : w24.rangeLeft bm rr = cnt := hrg.left_eq
              have hfx0 : 0 < sizeF (shN m) m (bF V.T V.H) x := by have := sizeF_nn (s := shN m) (n := m) (B := bF V.T V.H) (y := x); omega
              have hfresh := fun (g : Int → Int) (j : Nat) (h : QJ (sizeF (shN m) m (bF V.T V.H)) left x j g) => qj_fresh h hfx hlx (j := j)
              have hQ0 := qj_zero (x := x) hQ
              obtain ⟨f, hf⟩ : ∃ f, f = sizeF (shN m) m (bF V.T V.H) := ⟨_, rfl⟩
              rw [← hf] at z2 z4 z5 hfx hfI hnx hrg25 hen hfx0 hfresh hQ0
              rw [← hf]
              obtain ⟨kx, hkx⟩ : ∃ z, z = f x := ⟨_, rfl⟩
              rw [← hkx] at z2 z4 z5 hfI hnx hen hfx0
              have t1 : ¬ x < 192 := by omega
              have t2 := IntWalk.i64_in (x + kx) (by omega)
              have t3 := IntWalk.i64_in (1024 * (m : Int)) (by omega)
              have t4 := IntWalk.i64_in (192 + 1024 * (m : Int)) (by omega)
              have t5 : ¬ 192 + 1024 * (m : Int) < x + kx := by omega
              have t6 : x.tmod 64 = 0 := by rw [Int.tmod_eq_emod_of_nonneg (by omega)]; omega
              simp -implicitDefEqProofs [go_sem, q5, q6, q7, q8, q15, q16, q38, q39, q40, q131, hnx, hen, hR25.sh.cell, shapeC_1, shapeC_3, shN, t1, t2, t3, t4, t5, t6]
              refine wpE_loop (fun e3 w' => ∃ (j na' : Nat) (g : Int → Int) (z : Int), 64 * (j : Int) ≤ kx ∧ na' ≤ na + j ∧ z = x + 64 * (j : Int) ∧ e3 5 = .pointer (some ⟨p, 0, none⟩) ∧ e3 6 = .pointer (some ⟨b, 0, none⟩) ∧ e3 7 = .map (some bm) ∧ e3 8 = .slice a 0 c ∧ e3 15 = .pointer (some ⟨gs, 0, none⟩) ∧ e3 16 = .map (some ba) ∧
                e3 17 = .int .i64 x ∧ e3 18 = .int .i64 kx ∧ e3 19 = .int .i64 z ∧ e3 38 = .slice (some ⟨bA, oA, none⟩) l1.length cap1 ∧ e3 39 = .int .i64 (l1.length : Int) ∧ e3 40 = .int .i64 (k : Int) ∧ e3 131 = .pointer (some ⟨rr, 0, none⟩) ∧
                Rest w0 w' m b p tb tc hb hc V F B bm a 0 c xs gs ∧ RangeI w' bm rr nm f (fun z => left z && !decide (z = x)) cnt' ∧ MapI w' ba na' g ∧ QJ f left x j g) (fun e3 _ => (x + kx - intOf (e3 19)).toNat) ?_ ?_
              · refine ⟨0, na, g, x, by omega, by omega, by omega, ?_⟩
                simp -implicitDefEqProofs [go_sem, q5, q6, q7, q8, q15, q16, q38, q39, q40, q131]
                exact ⟨hR25, hrg25, hMa25, hQ0⟩
              · clear hR25 hrg25 hMa25 hQ0 hQ hMa hrg hR
                rintro e3 w26 ⟨j, na', g, z, hj1, hj2, hz, p5, p6, p7, p8, p15, p16, p17, p18, p19, p38, p39, p40, p131, hR, hrg, hMa, hQJ⟩
                have t7 := IntWalk.i64_in (z + 64) (by omega)
                by_cases hjk : 64 * (j : Int) < kx
                · have t8 : z < x + kx := by omega
                  have hzI : I64 z := by unfold I64; omega
                  have hg0 : g z = 0 := by rw [hz]; exact hfresh g j hQJ (by omega) (by rw [← hz]; exact hzI)
                  have hl1 := hMa.look (t := 29) Tryd.underlying29 hzI
                  rw [hg0] at hl1
                  obtain ⟨w27, hr27, hMa27, hg27⟩ := hMa.put (t := 29) Tryd.underlying29 (by unfold maxLen; omega) hzI (v := 1) (by unfold I64; omega) (by omega)
                  have hl2 := hMa27.look (t := 29) Tryd.underlying29 hzI
                  rw [if_pos rfl] at hl2
                  have hR27 := hR.one hg27 (fun h => by have := hlt21 _ h; omega) (fun h => by have := hown20 _ h; omega) (by omega) (by have := bel20.size; omega)
                  have hrg27 := hrg.kept hg27 (fun e => by cases e; omega) (fun e => by cases e; omega)
                  have hQJ' := qj_succ hQJ
                  rw [← hz] at hQJ'
                  have t9 : IntKind.i64.wrap 1 = 1 := by decide
                  simp -implicitDefEqProofs [go_sem, p5, p6, p7, p8, p15, p16, p17, p18, p19, p38, p39, p40, p131, t2, t8, hl1, t9, hr27, hl2, t7]
                  refine goE_round ⟨j + 1, na' + 1, fun q => if q = z then 1 else g q, z + 64, by omega, by omega, by omega, ?_⟩ ?_
                  · simp -implicitDefEqProofs [go_sem, p5, p6, p7, p8, p15, p16, p17, p18, p19, p38, p39, p40, p131]
                    exact ⟨hR27, hrg27, hMa27, hQJ'⟩
                  · simp -implicitDefEqProofs [go_sem, intOf, p19, t7]; omega
                · have t8 : ¬ z < x + kx := by omega
                  have hQe := qj_end hQJ (by omega) (by omega)
                  have hrl2 : w26.rangeLeft bm rr = cnt' := hrg.left_eq
                  simp -implicitDefEqProofs [go_sem, p5, p6, p7, p8, p15, p16, p17, p18, p19, p38, p39, p40, p131, t2, t8]
                  refine goE_round ⟨fun z => left z && !decide (z = x), cnt', na', g, by omega, ?_⟩ ?_
                  · simp -implicitDefEqProofs [go_sem, p5, p6, p7, p8, p15, p16, p17, p18, p19, p38, p39, p40, p131]
                    exact ⟨hR, hrg, hMa, hQe⟩
                  · rw [hrl2, hrl0]; exact hlt25
        · have hn1 : 0 < n := by omega
          obtain ⟨r, j, i1, i2, i3, i4, i5⟩ := idx_of (at_ := A.at_) hn1 (by omega)
          obtain ⟨bt, ot, x, rfl, gx, hxm, hx, -⟩ := htl.get i5
          have s1 := IntWalk.i64_in r (by omega)
          have s2 := IntWalk.i64_in (r + (n : Int)) (by omega)
          have s3 := IntWalk.i64_in (j : Int) (by omega)
          have i5' : (j : Int) < n := by omega
          have hx6 : I64 (x : Int) := by unfold I64; omega
          simp -implicitDefEqProofs [go_sem, g5, g6, g7, g8, g38, g39, g40, hB7.cell, A.c0, A.c1, hr, hn1, hn0, i1, i4, s1, s2, s3, gx, i5, i5']
          have hact := poolTake_calls V (x : Int) w7 hPD rfl hn (by omega) hx6 hdat
          refine callE_of hact ?_
          have hg8 := hg.take hm4 (shN m) (x : Int)
          have hsf := tak_sizeF (s := shN m) hg.well hm4 (x : Int)
          obtain ⟨R, hR⟩ : ∃ R, R = takeV (shN m) V (x : Int) := ⟨_, rfl⟩
          rw [← hR] at hg8 hsf ⊢
          obtain ⟨V2, e⟩ := R
          dsimp only at hg8 hsf ⊢
          rintro v w8 ⟨rfl, F8, hPDT, t8⟩
          have hMT := (hM.mod t8.mod hbmF).congr (g := sizeF (shN m) m (bF V2.T V2.H)) (fun z _ => hsf z)
          have htlT := htl.turn (turn_m t8)
          have belT := bel7.trans (t8.mod.below bel7.size hge)
          have hszT := Nat.le_trans hsz7 t8.size
          have hgeT := t8.ge bel7.size hge
          have hbmT : ¬ PdK b tb hb F8 bm := fun h => by
            rcases t8.new _ h with h | h
            · exact hbmF h
            · have := hM.lt; omega
          have hgT := hg8
          clear hPD htl hM hg hact hsf
          simp -implicitDefEqProofs [go_sem, g5, g6, g7, g8, g38, g39, g40]
          refine callE_of (poolShape_calls w8 hPDT.pool) ?_
          rintro v w20 ⟨rfl, b20⟩
          have bel20 := belT.trans (b20.mono belT.size)
          have hPD20 := hPDT.next b20
          have htl20 := htlT.next b20
          have hM20 := hMT.next b20
          have hsz20 := Nat.le_trans hszT b20.size
          simp -implicitDefEqProofs [go_sem, g5, g6, g7, g8, g38, g39, g40, ↓stShape (shN m)]
          generalize hw21 : World.alloc w20 _ = w21 at *
          obtain ⟨hB21, b21, sz21⟩ := new_facts hw21
          have bel21 := bel20.trans (b21.mono bel20.size)
          replace hPD20 := hPD20.next b21
          replace htl20 := htl20.next b21
          replace hM20 := hM20.next b21
          have hlt21 : ∀ k, PdK b tb hb F8 k → k < w20.heap.size := fun k hk => Nat.lt_of_lt_of_le (hPDT.lt k hk) b20.size
          have hbmlt20 : bm < w20.heap.size := Nat.lt_of_lt_of_le hMT.lt b20.size
          have hown20 : ∀ g, Value.ownBlock (.slice (some ⟨bt, ot, none⟩) n c) = some g → g < w20.heap.size := fun g hg => Nat.lt_of_lt_of_le (htlT.own.lt g hg).2 b20.size
          obtain ⟨gs, hgs⟩ : ∃ g, g = w20.heap.size := ⟨_, rfl⟩
          rw [← hgs] at hB21 hlt21 hbmlt20 hown20 hsz20 ⊢
          have hR21 : Rest w0 w21 m b p tb tc hb hc V2 F8 B bm (some ⟨bt, ot, none⟩) n c xs gs := ⟨hPD20, htl20, hB21, bel21, by have := b21.size; omega⟩
          have hsz21 : gs < w21.heap.size := hB21.lt
          simp -implicitDefEqProofs [go_sem, g5, g6, g7, g8, g38, g39, g40, run_makeMap]
          have hMa := mapI_made w21
          have hm22 : Below w21.heap.size w21 (w21.alloc (.map #[] 0)) := (Below.refl _ _).alloc (Nat.le_refl _) _
          have hsz22 : (w21.alloc (.map #[] 0)).heap.size = w21.heap.size + 1 := by simp
          obtain ⟨ba, hba⟩ : ∃ g, g = w21.heap.size := ⟨_, rfl⟩
          have hR22 := hR21.mod (Mod.of (F := fun _ => False) hm22) (fun _ _ h => h) (fun _ _ h => h) (fun h => h) (fun _ h => h.elim)
          have hM22 := hM20.next hm22
          rw [← hba] at hMa hsz22 hsz21 ⊢
          generalize hw22 : World.alloc w21 _ = w22 at *
          obtain ⟨w23, left, cnt, hr23, hrg23, hlf23, hg23, hs23, hcnt23⟩ := hM22.range Tryd.underlying29
          obtain ⟨rr, hrr⟩ : ∃ g, g = w22.heap.size := ⟨_, rfl⟩
          rw [← hrr] at hr23 hrg23 hs23
          have hb23 : Below w22.heap.size w22 w23 := (mod_of_grown hg23).below (Nat.le_refl _) (fun k e => by cases e)
          have hR23 := hR22.mod (Mod.of (F := fun _ => False) hb23) (fun _ _ h => h) (fun _ _ h => h) (fun h => h) (fun _ h => h.elim)
          have hMa23 := hMa.next hb23
          simp -implicitDefEqProofs [go_sem, g5, g6, g7, g8, g38, g39, g40, hr23]
          refine wpE_loop (fun e2 w' => ∃ (left : Int → Bool) (cnt na : Nat) (g : Int → Int), na + 5 * cnt ≤ 5 * nm ∧ e2 5 = .pointer (some ⟨p, 0, none⟩) ∧ e2 6 = .pointer (some ⟨b, 0, none⟩) ∧ e2 7 = .map (some bm) ∧ e2 8 = .slice (some ⟨bt, ot, none⟩) n c ∧ e2 15 = .pointer (some ⟨gs, 0, none⟩) ∧ e2 16 = .map (some ba) ∧
            e2 38 = .slice (some ⟨bA, oA, none⟩) l1.length cap1 ∧ e2 39 = .int .i64 (l1.length : Int) ∧ e2 40 = .int .i64 (k : Int) ∧ e2 131 = .pointer (some ⟨rr, 0, none⟩) ∧
            Rest w0 w' m b p tb tc hb hc V2 F8 B bm (some ⟨bt, ot, none⟩) n c xs gs ∧ RangeI w' bm rr nm (sizeF (shN m) m (bF V2.T V2.H)) left cnt ∧ MapI w' ba na g ∧ QI (sizeF (shN m) m (bF V2.T V2.H)) left g) (fun _ w' => w'.rangeLeft bm rr) ?_ ?_
          · refine ⟨left, cnt, 0, fun _ => 0, by omega, ?_⟩
            simp -implicitDefEqProofs [go_sem, g5, g6, g7, g8, g38, g39, g40]
            exact ⟨hR23, hrg23, hMa23, fun z _ h => absurd rfl h⟩
          · clear hR21 hR22 hR23 hMa hMa23 hM22 hM20 hrg23 hlf23 hPD20 htl20 hPDT htlT hMT
            rintro e2 w24 ⟨left, cnt, na, g, hna, q5, q6, q7, q8, q15, q16, q38, q39, q40, q131, hR, hrg, hMa, hQ⟩
            rcases hrg.step 0 with ⟨h0, hnx⟩ | ⟨x, w25, cnt', hx, hfx, hfI, hlx, hnx, hrg25, hlt25, hg25, hs25, hen⟩
            · simp -implicitDefEqProofs [go_sem, q5, q6, q7, q8, q15, q16, q38, q39, q40, q131, hnx, k1]
              refine goE_round ⟨k + 1, V2, F8, (some ⟨bt, ot, none⟩), n, c, xs, nm, by omega, by omega, by omega, ?_⟩ ?_
              · simp -implicitDefEqProofs [go_sem, q5, q6, q7, q8, q15, q16, q38, q39, q40, q131, k1]
                exact ⟨hgT, hR.pd, hR.tl, hrg.owns, hR.bel, hR.sz, hgeT, hbmT⟩
              · simp -implicitDefEqProofs [go_sem, intOf, g40, q40, k1]; omega
            · obtain ⟨z1, z2, z3, z4, z5⟩ := size_in (s := shN m) (n := m) (B := bF V2.T V2.H) (x := x) (by have := sizeF_nn (s := shN m) (n := m) (B := bF V2.T V2.H) (y := x); omega)
              rw [show (shN m).data = 192 from rfl] at z1 z2 z3
              have hR25 := hR.one hg25 (fun h => by have := hlt21 _ h; omega) (fun h => by have := hown20 _ h; omega) (by omega) (by have := bel20.size; omega)
              have hMa25 := hMa.mod (mod_of_grown hg25) (fun e => by cases e; omega)
              have hrl : w25.rangeLeft bm rr = cnt' := hrg25.left_eq
              have hrl0 : w24.rangeLeft bm rr = cnt := hrg.left_eq
              have hfx0 : 0 < sizeF (shN m) m (bF V2.T V2.H) x := by have := sizeF_nn (s := shN m) (n := m) (B := bF V2.T V2.H) (y := x); omega
              have hfresh := fun (g : Int → Int) (j : Nat) (h : QJ (sizeF (shN m) m (bF V2.T V2.H)) left x j g) => qj_fresh h hfx hlx (j := j)
              have hQ0 := qj_zero (x := x) hQ
              obtain ⟨f, hf⟩ : ∃ f, f = sizeF (shN m) m (bF V2.T V2.H) := ⟨_, rfl⟩
              rw [← hf] at z2 z4 z5 hfx hfI hnx hrg25 hen hfx0 hfresh hQ0
              rw [← hf]
              obtain ⟨kx, hkx⟩ : ∃ z, z = f x := ⟨_, rfl⟩
              rw [← hkx] at z2 z4 z5 hfI hnx hen hfx0
              have t1 : ¬ x < 192 := by omega
              have t2 := IntWalk.i64_in (x + kx) (by omega)
              have t3 := IntWalk.i64_in (1024 * (m : Int)) (by omega)
              have t4 := IntWalk.i64_in (192 + 1024 * (m : Int)) (by omega)
              have t5 : ¬ 192 + 1024 * (m : Int) < x + kx := by omega
              have t6 : x.tmod 64 = 0 := by rw [Int.tmod_eq_emod_of_nonneg (by omega)]; omega
              simp -implicitDefEqProofs [go_sem, q5, q6, q7, q8, q15, q16, q38, q39, q40, q131, hnx, hen, hR25.sh.cell, shapeC_1, shapeC_3, shN, t1, t2, t3, t4, t5, t6]
              refine wpE_loop (fun e3 w' => ∃ (j na' : Nat) (g : Int → Int) (z : Int), 64 * (j : Int) ≤ kx ∧ na' ≤ na + j ∧ z = x + 64 * (j : Int) ∧ e3 5 = .pointer (some ⟨p, 0, none⟩) ∧ e3 6 = .pointer (some ⟨b, 0, none⟩) ∧ e3 7 = .map (some bm) ∧ e3 8 = .slice (some ⟨bt, ot, none⟩) n c ∧ e3 15 = .pointer (some ⟨gs, 0, none⟩) ∧ e3 16 = .map (some ba) ∧
                e3 17 = .int .i64 x ∧ e3 18 = .int .i64 kx ∧ e3 19 = .int .i64 z ∧ e3 38 = .slice (some ⟨bA, oA, none⟩) l1.length cap1 ∧ e3 39 = .int .i64 (l1.length : Int) ∧ e3 40 = .int .i64 (k : Int) ∧ e3 131 = .pointer (some ⟨rr, 0, none⟩) ∧
                Rest w0 w' m b p tb tc hb hc V2 F8 B bm (some ⟨bt, ot, none⟩) n c xs gs ∧ RangeI w' bm rr nm f (fun z => left z && !decide (z = x)) cnt' ∧ MapI w' ba na' g ∧ QJ f left x j g) (fun e3 _ => (x + kx - intOf (e3 19)).toNat) ?_ ?_
              · refine ⟨0, na, g, x, by omega, by omega, by omega, ?_⟩
                simp -implicitDefEqProofs [go_sem, q5, q6, q7, q8, q15, q16, q38, q39, q40, q131]
                exact ⟨hR25, hrg25, hMa25, hQ0⟩
              · clear hR25 hrg25 hMa25 hQ0 hQ hMa hrg hR
                rintro e3 w26 ⟨j, na', g, z, hj1, hj2, hz, p5, p6, p7, p8, p15, p16, p17, p18, p19, p38, p39, p40, p131, hR, hrg, hMa, hQJ⟩
                have t7 := IntWalk.i64_in (z + 64) (by omega)
                by_cases hjk : 64 * (j : Int) < kx
                · have t8 : z < x + kx := by omega
                  have hzI : I64 z := by unfold I64; omega
                  have hg0 : g z = 0 := by rw [hz]; exact hfresh g j hQJ (by omega) (by rw [← hz]; exact hzI)
                  have hl1 := hMa.look (t := 29) Tryd.underlying29 hzI
                  rw [hg0] at hl1
                  obtain ⟨w27, hr27, hMa27, hg27⟩ := hMa.put (t := 29) Tryd.underlying29 (by unfold maxLen; omega) hzI (v := 1) (by unfold I64; omega) (by omega)
                  have hl2 := hMa27.look (t := 29) Tryd.underlying29 hzI
                  rw [if_pos rfl] at hl2
                  have hR27 := hR.one hg27 (fun h => by have := hlt21 _ h; omega) (fun h => by have := hown20 _ h; omega) (by omega) (by have := bel20.size; omega)
                  have hrg27 := hrg.kept hg27 (fun e => by cases e; omega) (fun e => by cases e; omega)
                  have hQJ' := qj_succ hQJ
                  rw [← hz] at hQJ'
                  have t9 : IntKind.i64.wrap 1 = 1 := by decide
                  simp -implicitDefEqProofs [go_sem, p5, p6, p7, p8, p15, p16, p17, p18, p19, p38, p39, p40, p131, t2, t8, hl1, t9, hr27, hl2, t7]
                  refine goE_round ⟨j + 1, na' + 1, fun q => if q = z then 1 else g q, z + 64, by omega, by omega, by omega, ?_⟩ ?_
                  · simp -implicitDefEqProofs [go_sem, p5, p6, p7, p8, p15, p16, p17, p18, p19, p38, p39, p40, p131]
                    exact ⟨hR27, hrg27, hMa27, hQJ'⟩
                  · simp -implicitDefEqProofs [go_sem, intOf, p19, t7]; omega
                · have t8 : ¬ z < x + kx := by omega
                  have hQe := qj_end hQJ (by omega) (by omega)
                  have hrl2 : w26.rangeLeft bm rr = cnt' := hrg.left_eq
                  simp -implicitDefEqProofs [go_sem, p5, p6, p7, p8, p15, p16, p17, p18, p19, p38, p39, p40, p131, t2, t8]
                  refine goE_round ⟨fun z => left z && !decide (z = x), cnt', na', g, by omega, ?_⟩ ?_
                  · simp -implicitDefEqProofs [go_sem, p5, p6, p7, p8, p15, p16, p17, p18, p19, p38, p39, p40, p131]
                    exact ⟨hR, hrg, hMa, hQe⟩
                  · rw [hrl2, hrl0]; exact hlt25
      · simp -implicitDefEqProofs [go_sem, g5, g6, g7, g8, hB7.cell, A.c0, A.c1, hr]
        by_cases hn0 : n = 0
        · subst hn0
          simp -implicitDefEqProofs [go_sem, g5, g6, g7, g8, g38, g39, g40]
          have hgT := hg.mono (k' := k + 1) (by omega)
          have hPDT := hPD
          have htlT := htl
          have hMT := hM
          have belT := bel7
          have hszT := hsz7
          have hgeT := hge
          have hbmT := hbmF
          clear hPD htl hM hg
          refine callE_of (poolShape_calls w7 hPDT.pool) ?_
          rintro v w20 ⟨rfl, b20⟩
          have bel20 := belT.trans (b20.mono belT.size)
          have hPD20 := hPDT.next b20
          have htl20 := htlT.next b20
          have hM20 := hMT.next b20
          have hsz20 := Nat.le_trans hszT b20.size
          simp -implicitDefEqProofs [go_sem, g5, g6, g7, g8, g38, g39, g40, ↓stShape (shN m)]
          generalize hw21 : World.alloc w20 _ = w21 at *
          obtain ⟨hB21, b21, sz21⟩ := new_facts hw21
          have bel21 := bel20.trans (b21.mono bel20.size)
          replace hPD20 := hPD20.next b21
          replace htl20 := htl20.next b21
          replace hM20 := hM20.next b21
          have hlt21 : ∀ k, PdK b tb hb F k → k < w20.heap.size := fun k hk => Nat.lt_of_lt_of_le (hPDT.lt k hk) b20.size
          have hbmlt20 : bm < w20.heap.size := Nat.lt_of_lt_of_le hMT.lt b20.size
          have hown20 : ∀ g, Value.ownBlock (.slice a 0 c) = some g → g < w20.heap.size := fun g hg => Nat.lt_of_lt_of_le (htlT.own.lt g hg).2 b20.size
          obtain ⟨gs, hgs⟩ : ∃ g, g = w20.heap.size := ⟨_, rfl⟩
          rw [← hgs] at hB21 hlt21 hbmlt20 hown20 hsz20 ⊢
          have hR21 : Rest w0 w21 m b p tb tc hb hc V F B bm a 0 c xs gs := ⟨hPD20, htl20, hB21, bel21, by have := b21.size; omega⟩
          have hsz21 : gs < w21.heap.size := hB21.lt
          simp -implicitDefEqProofs [go_sem, g5, g6, g7, g8, g38, g39, g40, run_makeMap]
          have hMa := mapI_made w21
          have hm22 : Below w21.heap.size w21 (w21.alloc (.map #[] 0)) := (Below.refl _ _).alloc (Nat.le_refl _) _
          have hsz22 : (w21.alloc (.map #[] 0)).heap.size = w21.heap.size + 1 := by simp
          obtain ⟨ba, hba⟩ : ∃ g, g = w21.heap.size := ⟨_, rfl⟩
          have hR22 := hR21.mod (Mod.of (F := fun _ => False) hm22) (fun _ _ h => h) (fun _ _ h => h) (fun h => h) (fun _ h => h.elim)
          have hM22 := hM20.next hm22
          rw [← hba] at hMa hsz22 hsz21 ⊢
          generalize hw22 : World.alloc w21 _ = w22 at *
          obtain ⟨w23, left, cnt, hr23, hrg23, hlf23, hg23, hs23, hcnt23⟩ := hM22.range Tryd.underlying29
          obtain ⟨rr, hrr⟩ : ∃ g, g = w22.heap.size := ⟨_, rfl⟩
          rw [← hrr] at hr23 hrg23 hs23
          have hb23 : Below w22.heap.size w22 w23 := (mod_of_grown hg23).below (Nat.le_refl _) (fun k e => by cases e)
          have hR23 := hR22.mod (Mod.of (F := fun _ => False) hb23) (fun _ _ h => h) (fun _ _ h => h) (fun h => h) (fun _ h => h.elim)
          have hMa23 := hMa.next hb23
          simp -implicitDefEqProofs [go_sem, g5, g6, g7, g8, g38, g39, g40, hr23]
          refine wpE_loop (fun e2 w' => ∃ (left : Int → Bool) (cnt na : Nat) (g : Int → Int), na + 5 * cnt ≤ 5 * nm ∧ e2 5 = .pointer (some ⟨p, 0, none⟩) ∧ e2 6 = .pointer (some ⟨b, 0, none⟩) ∧ e2 7 = .map (some bm) ∧ e2 8 = .slice a 0 c ∧ e2 15 = .pointer (some ⟨gs, 0, none⟩) ∧ e2 16 = .map (some ba) ∧
            e2 38 = .slice (some ⟨bA, oA, none⟩) l1.length cap1 ∧ e2 39 = .int .i64 (l1.length : Int) ∧ e2 40 = .int .i64 (k : Int) ∧ e2 131 = .pointer (some ⟨rr, 0, none⟩) ∧
            Rest w0 w' m b p tb tc hb hc V F B bm a 0 c xs gs ∧ RangeI w' bm rr nm (sizeF (shN m) m (bF V.T V.H)) left cnt ∧ MapI w' ba na g ∧ QI (sizeF (shN m) m (bF V.T V.H)) left g) (fun _ w' => w'.rangeLeft bm rr) ?_ ?_
          · refine ⟨left, cnt, 0, fun _ => 0, by omega, ?_⟩
            simp -implicitDefEqProofs [go_sem, g5, g6, g7, g8, g38, g39, g40]
            exact ⟨hR23, hrg23, hMa23, fun z _ h => absurd rfl h⟩
          · clear hR21 hR22 hR23 hMa hMa23 hM22 hM20 hrg23 hlf23 hPD20 htl20 hPDT htlT hMT
            rintro e2 w24 ⟨left, cnt, na, g, hna, q5, q6, q7, q8, q15, q16, q38, q39, q40, q131, hR, hrg, hMa, hQ⟩
            rcases hrg.step 0 with ⟨h0, hnx⟩ | ⟨x, w25, cnt', hx, hfx, hfI, hlx, hnx, hrg25, hlt25, hg25, hs25, hen⟩
            · simp -implicitDefEqProofs [go_sem, q5, q6, q7, q8, q15, q16, q38, q39, q40, q131, hnx, k1]
              refine goE_round ⟨k + 1, V, F, a, 0, c, xs, nm, by omega, by omega, by omega, ?_⟩ ?_
              · simp -implicitDefEqProofs [go_sem, q5, q6, q7, q8, q15, q16, q38, q39, q40, q131, k1]
                exact ⟨hgT, hR.pd, hR.tl, hrg.owns, hR.bel, hR.sz, hgeT, hbmT⟩
              · simp -implicitDefEqProofs [go_sem, intOf, g40, q40, k1]; omega
            · obtain ⟨z1, z2, z3, z4, z5⟩ := size_in (s := shN m) (n := m) (B := bF V.T V.H) (x := x) (by have := sizeF_nn (s := shN m) (n := m) (B := bF V.T V.H) (y := x); omega)
              rw [show (shN m).data = 192 from rfl] at z1 z2 z3
              have hR25 := hR.one hg25 (fun h => by have := hlt21 _ h; omega) (fun h => by have := hown20 _ h; omega) (by omega) (by have := bel20.size; omega)
              have hMa25 := hMa.mod (mod_of_grown hg25) (fun e => by cases e; omega)
              have hrl : w25.rangeLeft bm rr = cnt' := hrg25.left_eq
              have hrl0 : w24.rangeLeft bm rr = cnt := hrg.left_eq
              have hfx0 : 0 < sizeF (shN m) m (bF V.T V.H) x := by have := sizeF_nn (s := shN m) (n := m) (B := bF V.T V.H) (y := x); omega
              have hfresh := fun (g : Int → Int) (j : Nat) (h : QJ (sizeF (shN m) m (bF V.T V.H)) left x j g) => qj_fresh h hfx hlx (j := j)
              have hQ0 := qj_zero (x := x) hQ
              obtain ⟨f, hf⟩ : ∃ f, f = sizeF (shN m) m (bF V.T V.H) := ⟨_, rfl⟩
              rw [← hf] at z2 z4 z5 hfx hfI hnx hrg25 hen hfx0 hfresh hQ0
              rw [← hf]
              obtain ⟨kx, hkx⟩ : ∃ z, z = f x := ⟨_, rfl⟩
              rw [← hkx] at z2 z4 z5 hfI hnx hen hfx0
              have t1 : ¬ x < 192 := by omega
              have t2 := IntWalk.i64_in (x + kx) (by omega)
              have t3 := IntWalk.i64_in (1024 * (m : Int)) (by omega)
              have t4 := IntWalk.i64_in (192 + 1024 * (m : Int)) (by omega)
              have t5 : ¬ 192 + 1024 * (m : Int) < x + kx := by omega
              have t6 : x.tmod 64 = 0 := by rw [Int.tmod_eq_emod_of_nonneg (by omega)]; omega
              simp -implicitDefEqProofs [go_sem, q5, q6, q7, q8, q15, q16, q38, q39, q40, q131, hnx, hen, hR25.sh.cell, shapeC_1, shapeC_3, shN, t1, t2, t3, t4, t5, t6]
              refine wpE_loop (fun e3 w' => ∃ (j na' : Nat) (g : Int → Int) (z : Int), 64 * (j : Int) ≤ kx ∧ na' ≤ na + j ∧ z = x + 64 * (j : Int) ∧ e3 5 = .pointer (some ⟨p, 0, none⟩) ∧ e3 6 = .pointer (some ⟨b, 0, none⟩) ∧ e3 7 = .map (some bm) ∧ e3 8 = .slice a 0 c ∧ e3 15 = .pointer (some ⟨gs, 0, none⟩) ∧ e3 16 = .map (some ba) ∧
                e3 17 = .int .i64 x ∧ e3 18 = .int .i64 kx ∧ e3 19 = .int .i64 z ∧ e3 38 = .slice (some ⟨bA, oA, none⟩) l1.length cap1 ∧ e3 39 = .int .i64 (l1.length : Int) ∧ e3 40 = .int .i64 (k : Int) ∧ e3 131 = .pointer (some ⟨rr, 0, none⟩) ∧
                Rest w0 w' m b p tb tc hb hc V F B bm a 0 c xs gs ∧ RangeI w' bm rr nm f (fun z => left z && !decide (z = x)) cnt' ∧ MapI w' ba na' g ∧ QJ f left x j g) (fun e3 _ => (x + kx - intOf (e3 19)).toNat) ?_ ?_
              · refine ⟨0, na, g, x, by omega, by omega, by omega, ?_⟩
                simp -implicitDefEqProofs [go_sem, q5, q6, q7, q8, q15, q16, q38, q39, q40, q131]
                exact ⟨hR25, hrg25, hMa25, hQ0⟩
              · clear hR25 hrg25 hMa25 hQ0 hQ hMa hrg hR
                rintro e3 w26 ⟨j, na', g, z, hj1, hj2, hz, p5, p6, p7, p8, p15, p16, p17, p18, p19, p38, p39, p40, p131, hR, hrg, hMa, hQJ⟩
                have t7 := IntWalk.i64_in (z + 64) (by omega)
                by_cases hjk : 64 * (j : Int) < kx
                · have t8 : z < x + kx := by omega
                  have hzI : I64 z := by unfold I64; omega
                  have hg0 : g z = 0 := by rw [hz]; exact hfresh g j hQJ (by omega) (by rw [← hz]; exact hzI)
                  have hl1 := hMa.look (t := 29) Tryd.underlying29 hzI
                  rw [hg0] at hl1
                  obtain ⟨w27, hr27, hMa27, hg27⟩ := hMa.put (t := 29) Tryd.underlying29 (by unfold maxLen; omega) hzI (v := 1) (by unfold I64; omega) (by omega)
                  have hl2 := hMa27.look (t := 29) Tryd.underlying29 hzI
                  rw [if_pos rfl] at hl2
                  have hR27 := hR.one hg27 (fun h => by have := hlt21 _ h; omega) (fun h => by have := hown20 _ h; omega) (by omega) (by have := bel20.size; omega)
                  have hrg27 := hrg.kept hg27 (fun e => by cases e; omega) (fun e => by cases e; omega)
                  have hQJ' := qj_succ hQJ
                  rw [← hz] at hQJ'
                  have t9 : IntKind.i64.wrap 1 = 1 := by decide
                  simp -implicitDefEqProofs [go_sem, p5, p6, p7, p8, p15, p16, p17, p18, p19, p38, p39, p40, p131, t2, t8, hl1, t9, hr27, hl2, t7]
                  refine goE_round ⟨j + 1, na' + 1, fun q => if q = z then 1 else g q, z + 64, by omega, by omega, by omega, ?_⟩ ?_
                  · simp -implicitDefEqProofs [go_sem, p5, p6, p7, p8, p15, p16, p17, p18, p19, p38, p39, p40, p131]
                    exact ⟨hR27, hrg27, hMa27, hQJ'⟩
                  · simp -implicitDefEqProofs [go_sem, intOf, p19, t7]; omega
                · have t8 : ¬ z < x + kx := by omega
                  have hQe := qj_end hQJ (by omega) (by omega)
                  have hrl2 : w26.rangeLeft bm rr = cnt' := hrg.left_eq
                  simp -implicitDefEqProofs [go_sem, p5, p6, p7, p8, p15, p16, p17, p18, p19, p38, p39, p40, p131, t2, t8]
                  refine goE_round ⟨fun z => left z && !decide (z = x), cnt', na', g, by omega, ?_⟩ ?_
                  · simp -implicitDefEqProofs [go_sem, p5, p6, p7, p8, p15, p16, p17, p18, p19, p38, p39, p40, p131]
                    exact ⟨hR, hrg, hMa, hQe⟩
                  · rw [hrl2, hrl0]; exact hlt25
        · have hn1 : 0 < n := by omega
          obtain ⟨r, j, i1, i2, i3, i4, i5⟩ := idx_of (at_ := A.at_) hn1 (by omega)
          obtain ⟨bt, ot, x, rfl, gx, hxm, hx, -⟩ := htl.get i5
          have s1 := IntWalk.i64_in r (by omega)
          have s2 := IntWalk.i64_in (r + (n : Int)) (by omega)
          have s3 := IntWalk.i64_in (j : Int) (by omega)
          have i5' : (j : Int) < n := by omega
          have hx6 : I64 (x : Int) := by unfold I64; omega
          simp -implicitDefEqProofs [go_sem, g5, g6, g7, g8, g38, g39, g40, hB7.cell, A.c0, A.c1, hr, hn1, hn0, i1, i4, s1, s2, s3, gx, i5, i5']
          refine drawE_alt [.pure 0, .pure 1, .pure 4, .pure 5] 2 [] [.pure 3, .run 6 [], .pure 7, .pure 8] 6 [] [.pure 7, .run 2 [], .pure 3, .pure 8] mixed (by decide +kernel) (by simp only [withOps, MStep.num, List.filterMap_cons, List.filterMap_nil, List.getElem?_cons_succ, List.getElem?_cons_zero, Option.map_some]; rfl) (by simp only [withOps, MStep.num, List.filterMap_cons, List.filterMap_nil, List.getElem?_cons_succ, List.getElem?_cons_zero, Option.map_some]; rfl) (by simp only [withOps, MStep.num, List.filterMap_cons, List.filterMap_nil, List.getElem?_cons_succ, List.getElem?_cons_zero, Option.map_some]; rfl) ?_
          have hPD := hPD.next (Below.refl _ _).drew
          have htl := htl.next (Below.refl _ _).drew
          have hM := hM.next (Below.refl _ _).drew
          have bel7 := bel7.drew
          have hsz7 : B ≤ (World.drew w7).heap.size := hsz7
          generalize World.drew w7 = w70 at *
          have hact := poolDrop_calls V (x : Int) w70 hPD rfl hn (by omega) hx6 hdat
          have hg8 := hg.drop hm4 (shN m) (x : Int)
          obtain ⟨hsf1, hsf2⟩ := drp_sizeF (s := shN m) hg.well hm4 (x : Int)
          obtain ⟨R, hR⟩ : ∃ R, R = dropV (shN m) V (x : Int) := ⟨_, rfl⟩
          rw [← hR] at hg8 hact hsf1 hsf2
          obtain ⟨V2, e⟩ := R
          dsimp only at hg8 hact hsf1 hsf2
          obtain ⟨kx, hkx⟩ : ∃ z, z = sizeF (shN m) m (bF V.T V.H) (x : Int) := ⟨_, rfl⟩
          obtain ⟨eb, heb⟩ : ∃ eb : Bool, eb = decide (0 < kx) := ⟨_, rfl⟩
          rw [← hkx, ← heb] at hsf1
          simp -implicitDefEqProofs [go_sem, g6, g7]
          refine ⟨?_, ?_⟩
          · refine callE_of hact ?_
            rintro v w8 ⟨rfl, F8, hPD8, t8⟩
            refine ⟨.inr (by simp -implicitDefEqProofs [go_sem]), ?_⟩
            have hM8 := hM.mod t8.mod hbmF
            have htl8 := htl.turn (turn_m t8)
            have bel8 := bel7.trans (t8.mod.below bel7.size hge)
            have hsz8 := Nat.le_trans hsz7 t8.size
            have hgeT := t8.ge bel7.size hge
            have hbmT : ¬ PdK b tb hb F8 bm := fun h => by
              rcases t8.new _ h with h | h
              · exact hbmF h
              · have := hM.lt; omega
            have hlook8 := hM8.look (t := 29) Tryd.underlying29 hx6
            rw [← hkx] at hlook8

            simp -implicitDefEqProofs [go_sem, g5, g6, g7, g8, g38, g39, g40, hlook8, hsf1, ← heb]
            obtain ⟨w9, hr9, hM9, hg9⟩ := hM8.del (t := 29) Tryd.underlying29 hx6 0
            have hMT := hM9.congr (g := sizeF (shN m) m (bF V2.T V2.H)) (fun z _ => hsf2 z)
            have hPDT := hPD8.mod (mod_of_grown hg9) (fun k hk e => hbmT (by cases e; exact hk))
            have htlT := htl8.mod (mod_of_grown hg9) (fun g hg e => htl8.away g hg (by cases e; exact .inr rfl))
            have belT := bel8.trans ((mod_of_grown hg9).below bel8.size (fun k e => by cases e; exact hbm0))
            have hszT := Nat.le_trans hsz8 hg9.size
            have hgT := hg8
            clear hPD hPD8 htl htl8 hM hM8 hM9 hg hact hsf2
            simp -implicitDefEqProofs [go_sem, g5, g6, g7, g8, g38, g39, g40, hr9]
            refine callE_of (poolShape_calls w9 hPDT.pool) ?_
            rintro v w20 ⟨rfl, b20⟩
            have bel20 := belT.trans (b20.mono belT.size)
            have hPD20 := hPDT.next b20
            have htl20 := htlT.next b20
            have hM20 := hMT.next b20
            have hsz20 := Nat.le_trans hszT b20.size
            simp -implicitDefEqProofs [go_sem, g5, g6, g7, g8, g38, g39, g40, ↓stShape (shN m)]
            generalize hw21 : World.alloc w20 _ = w21 at *
            obtain ⟨hB21, b21, sz21⟩ := new_facts hw21
            have bel21 := bel20.trans (b21.mono bel20.size)
            replace hPD20 := hPD20.next b21
            replace htl20 := htl20.next b21
            replace hM20 := hM20.next b21
            have hlt21 : ∀ k, PdK b tb hb F8 k → k < w20.heap.size := fun k hk => Nat.lt_of_lt_of_le (hPDT.lt k hk) b20.size
            have hbmlt20 : bm < w20.heap.size := Nat.lt_of_lt_of_le hMT.lt b20.size
            have hown20 : ∀ g, Value.ownBlock (.slice (some ⟨bt, ot, none⟩) n c) = some g → g < w20.heap.size := fun g hg => Nat.lt_of_lt_of_le (htlT.own.lt g hg).2 b20.size
            obtain ⟨gs, hgs⟩ : ∃ g, g = w20.heap.size := ⟨_, rfl⟩
            rw [← hgs] at hB21 hlt21 hbmlt20 hown20 hsz20 ⊢
            have hR21 : Rest w0 w21 m b p tb tc hb hc V2 F8 B bm (some ⟨bt, ot, none⟩) n c xs gs := ⟨hPD20, htl20, hB21, bel21, by have := b21.size; omega⟩
            have hsz21 : gs < w21.heap.size := hB21.lt
            simp -implicitDefEqProofs [go_sem, g5, g6, g7, g8, g38, g39, g40, run_makeMap]
            have hMa := mapI_made w21
            have hm22 : Below w21.heap.size w21 (w21.alloc (.map #[] 0)) := (Below.refl _ _).alloc (Nat.le_refl _) _
            have hsz22 : (w21.alloc (.map #[] 0)).heap.size = w21.heap.size + 1 := by simp
            obtain ⟨ba, hba⟩ : ∃ g, g = w21.heap.size := ⟨_, rfl⟩
            have hR22 := hR21.mod (Mod.of (F := fun _ => False) hm22) (fun _ _ h => h) (fun _ _ h => h) (fun h => h) (fun _ h => h.elim)
            have hM22 := hM20.next hm22
            rw [← hba] at hMa hsz22 hsz21 ⊢
            generalize hw22 : World.alloc w21 _ = w22 at *
            obtain ⟨w23, left, cnt, hr23, hrg23, hlf23, hg23, hs23, hcnt23⟩ := hM22.range Tryd.underlying29
            obtain ⟨rr, hrr⟩ : ∃ g, g = w22.heap.size := ⟨_, rfl⟩
            rw [← hrr] at hr23 hrg23 hs23
            have hb23 : Below w22.heap.size w22 w23 := (mod_of_grown hg23).below (Nat.le_refl _) (fun k e => by cases e)
            have hR23 := hR22.mod (Mod.of (F := fun _ => False) hb23) (fun _ _ h => h) (fun _ _ h => h) (fun h => h) (fun _ h => h.elim)
            have hMa23 := hMa.next hb23
            simp -implicitDefEqProofs [go_sem, g5, g6, g7, g8, g38, g39, g40, hr23]
            refine wpE_loop (fun e2 w' => ∃ (left : Int → Bool) (cnt na : Nat) (g : Int → Int), na + 5 * cnt ≤ 5 * nm ∧ e2 5 = .pointer (some ⟨p, 0, none⟩) ∧ e2 6 = .pointer (some ⟨b, 0, none⟩) ∧ e2 7 = .map (some bm) ∧ e2 8 = .slice (some ⟨bt, ot, none⟩) n c ∧ e2 15 = .pointer (some ⟨gs, 0, none⟩) ∧ e2 16 = .map (some ba) ∧
              e2 38 = .slice (some ⟨bA, oA, none⟩) l1.length cap1 ∧ e2 39 = .int .i64 (l1.length : Int) ∧ e2 40 = .int .i64 (k : Int) ∧ e2 131 = .pointer (some ⟨rr, 0, none⟩) ∧
              Rest w0 w' m b p tb tc hb hc V2 F8 B bm (some ⟨bt, ot, none⟩) n c xs gs ∧ RangeI w' bm rr nm (sizeF (shN m) m (bF V2.T V2.H)) left cnt ∧ MapI w' ba na g ∧ QI (sizeF (shN m) m (bF V2.T V2.H)) left g) (fun _ w' => w'.rangeLeft bm rr) ?_ ?_
            · refine ⟨left, cnt, 0, fun _ => 0, by omega, ?_⟩
              simp -implicitDefEqProofs [go_sem, g5, g6, g7, g8, g38, g39, g40]
              exact ⟨hR23, hrg23, hMa23, fun z _ h => absurd rfl h⟩
            · clear hR21 hR22 hR23 hMa hMa23 hM22 hM20 hrg23 hlf23 hPD20 htl20 hPDT htlT hMT
              rintro e2 w24 ⟨left, cnt, na, g, hna, q5, q6, q7, q8, q15, q16, q38, q39, q40, q131, hR, hrg, hMa, hQ⟩
              rcases hrg.step 0 with ⟨h0, hnx⟩ | ⟨x, w25, cnt', hx, hfx, hfI, hlx, hnx, hrg25, hlt25, hg25, hs25, hen⟩
              · simp -implicitDefEqProofs [go_sem, q5, q6, q7, q8, q15, q16, q38, q39, q40, q131, hnx, k1]
                refine goE_round ⟨k + 1, V2, F8, (some ⟨bt, ot, none⟩), n, c, xs, nm, by omega, by omega, by omega, ?_⟩ ?_
                · simp -implicitDefEqProofs [go_sem, q5, q6, q7, q8, q15, q16, q38, q39, q40, q131, k1]
                  exact ⟨hgT, hR.pd, hR.tl, hrg.owns, hR.bel, hR.sz, hgeT, hbmT⟩
                · simp -implicitDefEqProofs [go_sem, intOf, g40, q40, k1]; omega
              · obtain ⟨z1, z2, z3, z4, z5⟩ := size_in (s := shN m) (n := m) (B := bF V2.T V2.H) (x := x) (by have := sizeF_nn (s := shN m) (n := m) (B := bF V2.T V2.H) (y := x); omega)
                rw [show (shN m).data = 192 from rfl] at z1 z2 z3
                have hR25 := hR.one hg25 (fun h => by have := hlt21 _ h; omega) (fun h => by have := hown20 _ h; omega) (by omega) (by have := bel20.size; omega)
                have hMa25 := hMa.mod (mod_of_grown hg25) (fun e => by cases e; omega)
                have hrl : w25.rangeLeft bm rr = cnt' := hrg25.left_eq
                have hrl0 : w24.rangeLeft bm rr = cnt := hrg.left_eq
                have hfx0 : 0 < sizeF (shN m) m (bF V2.T V2.H) x := by have := sizeF_nn (s := shN m) (n := m) (B := bF V2.T V2.H) (y := x); omega
                have hfresh := fun (g : Int → Int) (j : Nat) (h : QJ (sizeF (shN m) m (bF V2.T V2.H)) left x j g) => qj_fresh h hfx hlx (j := j)
                have hQ0 := qj_zero (x := x) hQ
                obtain ⟨f, hf⟩ : ∃ f, f = sizeF (shN m) m (bF V2.T V2.H) := ⟨_, rfl⟩
                rw [← hf] at z2 z4 z5 hfx hfI hnx hrg25 hen hfx0 hfresh hQ0
                rw [← hf]
                obtain ⟨kx, hkx⟩ : ∃ z, z = f x := ⟨_, rfl⟩
                rw [← hkx] at z2 z4 z5 hfI hnx hen hfx0
                have t1 : ¬ x < 192 := by omega
                have t2 := IntWalk.i64_in (x + kx) (by omega)
                have t3 := IntWalk.i64_in (1024 * (m : Int)) (by omega)
                have t4 := IntWalk.i64_in (192 + 1024 * (m : Int)) (by omega)
                have t5 : ¬ 192 + 1024 * (m : Int) < x + kx := by omega
                have t6 : x.tmod 64 = 0 := by rw [Int.tmod_eq_emod_of_nonneg (by omega)]; omega
                simp -implicitDefEqProofs [go_sem, q5, q6, q7, q8, q15, q16, q38, q39, q40, q131, hnx, hen, hR25.sh.cell, shapeC_1, shapeC_3, shN, t1, t2, t3, t4, t5, t6]
                refine wpE_loop (fun e3 w' => ∃ (j na' : Nat) (g : Int → Int) (z : Int), 64 * (j : Int) ≤ kx ∧ na' ≤ na + j ∧ z = x + 64 * (j : Int) ∧ e3 5 = .pointer (some ⟨p, 0, none⟩) ∧ e3 6 = .pointer (some ⟨b, 0, none⟩) ∧ e3 7 = .map (some bm) ∧ e3 8 = .slice (some ⟨bt, ot, none⟩) n c ∧ e3 15 = .pointer (some ⟨gs, 0, none⟩) ∧ e3 16 = .map (some ba) ∧
                  e3 17 = .int .i64 x ∧ e3 18 = .int .i64 kx ∧ e3 19 = .int .i64 z ∧ e3 38 = .slice (some ⟨bA, oA, none⟩) l1.length cap1 ∧ e3 39 = .int .i64 (l1.length : Int) ∧ e3 40 = .int .i64 (k : Int) ∧ e3 131 = .pointer (some ⟨rr, 0, none⟩) ∧
                  Rest w0 w' m b p tb tc hb hc V2 F8 B bm (some ⟨bt, ot, none⟩) n c xs gs ∧ RangeI w' bm rr nm f (fun z => left z && !decide (z = x)) cnt' ∧ MapI w' ba na' g ∧ QJ f left x j g) (fun e3 _ => (x + kx - intOf (e3 19)).toNat) ?_ ?_
                · refine ⟨0, na, g, x, by omega, by omega, by omega, ?_⟩
                  simp -implicitDefEqProofs [go_sem, q5, q6, q7, q8, q15, q16, q38, q39, q40, q131]
                  exact ⟨hR25, hrg25, hMa25, hQ0⟩
                · clear hR25 hrg25 hMa25 hQ0 hQ hMa hrg hR
                  rintro e3 w26 ⟨j, na', g, z, hj1, hj2, hz, p5, p6, p7, p8, p15, p16, p17, p18, p19, p38, p39, p40, p131, hR, hrg, hMa, hQJ⟩
                  have t7 := IntWalk.i64_in (z + 64) (by omega)
                  by_cases hjk : 64 * (j : Int) < kx
                  · have t8 : z < x + kx := by omega
                    have hzI : I64 z := by unfold I64; omega
                    have hg0 : g z = 0 := by rw [hz]; exact hfresh g j hQJ (by omega) (by rw [← hz]; exact hzI)
                    have hl1 := hMa.look (t := 29) Tryd.underlying29 hzI
                    rw [hg0] at hl1
                    obtain ⟨w27, hr27, hMa27, hg27⟩ := hMa.put (t := 29) Tryd.underlying29 (by unfold maxLen; omega) hzI (v := 1) (by unfold I64; omega) (by omega)
                    have hl2 := hMa27.look (t := 29) Tryd.underlying29 hzI
                    rw [if_pos rfl] at hl2
                    have hR27 := hR.one hg27 (fun h => by have := hlt21 _ h; omega) (fun h => by have := hown20 _ h; omega) (by omega) (by have := bel20.size; omega)
                    have hrg27 := hrg.kept hg27 (fun e => by cases e; omega) (fun e => by cases e; omega)
                    have hQJ' := qj_succ hQJ
                    rw [← hz] at hQJ'
                    have t9 : IntKind.i64.wrap 1 = 1 := by decide
                    simp -implicitDefEqProofs [go_sem, p5, p6, p7, p8, p15, p16, p17, p18, p19, p38, p39, p40, p131, t2, t8, hl1, t9, hr27, hl2, t7]
                    refine goE_round ⟨j + 1, na' + 1, fun q => if q = z then 1 else g q, z + 64, by omega, by omega, by omega, ?_⟩ ?_
                    · simp -implicitDefEqProofs [go_sem, p5, p6, p7, p8, p15, p16, p17, p18, p19, p38, p39, p40, p131]
                      exact ⟨hR27, hrg27, hMa27, hQJ'⟩
                    · simp -implicitDefEqProofs [go_sem, intOf, p19, t7]; omega
                  · have t8 : ¬ z < x + kx := by omega
                    have hQe := qj_end hQJ (by omega) (by omega)
                    have hrl2 : w26.rangeLeft bm rr = cnt' := hrg.left_eq
                    simp -implicitDefEqProofs [go_sem, p5, p6, p7, p8, p15, p16, p17, p18, p19, p38, p39, p40, p131, t2, t8]
                    refine goE_round ⟨fun z => left z && !decide (z = x), cnt', na', g, by omega, ?_⟩ ?_
                    · simp -implicitDefEqProofs [go_sem, p5, p6, p7, p8, p15, p16, p17, p18, p19, p38, p39, p40, p131]
                      exact ⟨hR, hrg, hMa, hQe⟩
                    · rw [hrl2, hrl0]; exact hlt25
          · have hlook := hM.look (t := 29) Tryd.underlying29 hx6
            rw [← hkx] at hlook
            simp -implicitDefEqProofs [go_sem, g5, g6, g7, g8, g38, g39, g40, hlook]
            refine callE_of hact ?_
            rintro v w8 ⟨rfl, F8, hPD8, t8⟩
            refine ⟨.inr (by simp -implicitDefEqProofs [go_sem]), ?_⟩
            have hM8 := hM.mod t8.mod hbmF
            have htl8 := htl.turn (turn_m t8)
            have bel8 := bel7.trans (t8.mod.below bel7.size hge)
            have hsz8 := Nat.le_trans hsz7 t8.size
            have hgeT := t8.ge bel7.size hge
            have hbmT : ¬ PdK b tb hb F8 bm := fun h => by
              rcases t8.new _ h with h | h
              · exact hbmF h
              · have := hM.lt; omega
            have hlook8 := hM8.look (t := 29) Tryd.underlying29 hx6
            rw [← hkx] at hlook8

            simp -implicitDefEqProofs [go_sem, g5, g6, g7, g8, g38, g39, g40, hsf1, ← heb]
            obtain ⟨w9, hr9, hM9, hg9⟩ := hM8.del (t := 29) Tryd.underlying29 hx6 0
            have hMT := hM9.congr (g := sizeF (shN m) m (bF V2.T V2.H)) (fun z _ => hsf2 z)
            have hPDT := hPD8.mod (mod_of_grown hg9) (fun k hk e => hbmT (by cases e; exact hk))
            have htlT := htl8.mod (mod_of_grown hg9) (fun g hg e => htl8.away g hg (by cases e; exact .inr rfl))
            have belT := bel8.trans ((mod_of_grown hg9).below bel8.size (fun k e => by cases e; exact hbm0))
            have hszT := Nat.le_trans hsz8 hg9.size
            have hgT := hg8
            clear hPD hPD8 htl htl8 hM hM8 hM9 hg hact hsf2
            simp -implicitDefEqProofs [go_sem, g5, g6, g7, g8, g38, g39, g40, hr9]
            refine callE_of (poolShape_calls w9 hPDT.pool) ?_
            rintro v w20 ⟨rfl, b20⟩
            have bel20 := belT.trans (b20.mono belT.size)
            have hPD20 := hPDT.next b20
            have htl20 := htlT.next b20
            have hM20 := hMT.next b20
            have hsz20 := Nat.le_trans hszT b20.size
            simp -implicitDefEqProofs [go_sem, g5, g6, g7, g8, g38, g39, g40, ↓stShape (shN m)]
            generalize hw21 : World.alloc w20 _ = w21 at *
            obtain ⟨hB21, b21, sz21⟩ := new_facts hw21
            have bel21 := bel20.trans (b21.mono bel20.size)
            replace hPD20 := hPD20.next b21
            replace htl20 := htl20.next b21
            replace hM20 := hM20.next b21
            have hlt21 : ∀ k, PdK b tb hb F8 k → k < w20.heap.size := fun k hk => Nat.lt_of_lt_of_le (hPDT.lt k hk) b20.size
            have hbmlt20 : bm < w20.heap.size := Nat.lt_of_lt_of_le hMT.lt b20.size
            have hown20 : ∀ g, Value.ownBlock (.slice (some ⟨bt, ot, none⟩) n c) = some g → g < w20.heap.size := fun g hg => Nat.lt_of_lt_of_le (htlT.own.lt g hg).2 b20.size
            obtain ⟨gs, hgs⟩ : ∃ g, g = w20.heap.size := ⟨_, rfl⟩
            rw [← hgs] at hB21 hlt21 hbmlt20 hown20 hsz20 ⊢
            have hR21 : Rest w0 w21 m b p tb tc hb hc V2 F8 B bm (some ⟨bt, ot, none⟩) n c xs gs := ⟨hPD20, htl20, hB21, bel21, by have := b21.size; omega⟩
            have hsz21 : gs < w21.heap.size := hB21.lt
            simp -implicitDefEqProofs [go_sem, g5, g6, g7, g8, g38, g39, g40, run_makeMap]
            have hMa := mapI_made w21
            have hm22 : Below w21.heap.size w21 (w21.alloc (.map #[] 0)) := (Below.refl _ _).alloc (Nat.le_refl _) _
            have hsz22 : (w21.alloc (.map #[] 0)).heap.size = w21.heap.size + 1 := by simp
            obtain ⟨ba, hba⟩ : ∃ g, g = w21.heap.size := ⟨_, rfl⟩
            have hR22 := hR21.mod (Mod.of (F := fun _ => False) hm22) (fun _ _ h => h) (fun _ _ h => h) (fun h => h) (fun _ h => h.elim)
            have hM22 := hM20.next hm22
            rw [← hba] at hMa hsz22 hsz21 ⊢
            generalize hw22 : World.alloc w21 _ = w22 at *
            obtain ⟨w23, left, cnt, hr23, hrg23, hlf23, hg23, hs23, hcnt23⟩ := hM22.range Tryd.underlying29
            obtain ⟨rr, hrr⟩ : ∃ g, g = w22.heap.size := ⟨_, rfl⟩
            rw [← hrr] at hr23 hrg23 hs23
            have hb23 : Below w22.heap.size w22 w23 := (mod_of_grown hg23).below (Nat.le_refl _) (fun k e => by cases e)
            have hR23 := hR22.mod (Mod.of (F := fun _ => False) hb23) (fun _ _ h => h) (fun _ _ h => h) (fun h => h) (fun _ h => h.elim)
            have hMa23 := hMa.next hb23
            simp -implicitDefEqProofs [go_sem, g5, g6, g7, g8, g38, g39, g40, hr23]
            refine wpE_loop (fun e2 w' => ∃ (left : Int → Bool) (cnt na : Nat) (g : Int → Int), na + 5 * cnt ≤ 5 * nm ∧ e2 5 = .pointer (some ⟨p, 0, none⟩) ∧ e2 6 = .pointer (some ⟨b, 0, none⟩) ∧ e2 7 = .map (some bm) ∧ e2 8 = .slice (some ⟨bt, ot, none⟩) n c ∧ e2 15 = .pointer (some ⟨gs, 0, none⟩) ∧ e2 16 = .map (some ba) ∧
              e2 38 = .slice (some ⟨bA, oA, none⟩) l1.length cap1 ∧ e2 39 = .int .i64 (l1.length : Int) ∧ e2 40 = .int .i64 (k : Int) ∧ e2 131 = .pointer (some ⟨rr, 0, none⟩) ∧
              Rest w0 w' m b p tb tc hb hc V2 F8 B bm (some ⟨bt, ot, none⟩) n c xs gs ∧ RangeI w' bm rr nm (sizeF (shN m) m (bF V2.T V2.H)) left cnt ∧ MapI w' ba na g ∧ QI (sizeF (shN m) m (bF V2.T V2.H)) left g) (fun _ w' => w'.rangeLeft bm rr) ?_ ?_
            · refine ⟨left, cnt, 0, fun _ => 0, by omega, ?_⟩
              simp -implicitDefEqProofs [go_sem, g5, g6, g7, g8, g38, g39, g40]
              exact ⟨hR23, hrg23, hMa23, fun z _ h => absurd rfl h⟩
            · clear hR21 hR22 hR23 hMa hMa23 hM22 hM20 hrg23 hlf23 hPD20 htl20 hPDT htlT hMT
              rintro e2 w24 ⟨left, cnt, na, g, hna, q5, q6, q7, q8, q15, q16, q38, q39, q40, q131, hR, hrg, hMa, hQ⟩
              rcases hrg.step 0 with ⟨h0, hnx⟩ | ⟨x, w25, cnt', hx, hfx, hfI, hlx, hnx, hrg25, hlt25, hg25, hs25, hen⟩
              · simp -implicitDefEqProofs [go_sem, q5, q6, q7, q8, q15, q16, q38, q39, q40, q131, hnx, k1]
                refine goE_round ⟨k + 1, V2, F8, (some ⟨bt, ot, none⟩), n, c, xs, nm, by omega, by omega, by omega, ?_⟩ ?_
                · simp -implicitDefEqProofs [go_sem, q5, q6, q7, q8, q15, q16, q38, q39, q40, q131, k1]
                  exact ⟨hgT, hR.pd, hR.tl, hrg.owns, hR.bel, hR.sz, hgeT, hbmT⟩
                · simp -implicitDefEqProofs [go_sem, intOf, g40, q40, k1]; omega
              · obtain ⟨z1, z2, z3, z4, z5⟩ := size_in (s := shN m) (n := m) (B := bF V2.T V2.H) (x := x) (by have := sizeF_nn (s := shN m) (n := m) (B := bF V2.T V2.H) (y := x); omega)
                rw [show (shN m).data = 192 from rfl] at z1 z2 z3
                have hR25 := hR.one hg25 (fun h => by have := hlt21 _ h; omega) (fun h => by have := hown20 _ h; omega) (by omega) (by have := bel20.size; omega)
                have hMa25 := hMa.mod (mod_of_grown hg25) (fun e => by cases e; omega)
                have hrl : w25.rangeLeft bm rr = cnt' := hrg25.left_eq
                have hrl0 : w24.rangeLeft bm rr = cnt := hrg.left_eq
                have hfx0 : 0 < sizeF (shN m) m (bF V2.T V2.H) x := by have := sizeF_nn (s := shN m) (n := m) (B := bF V2.T V2.H) (y := x); omega
                have hfresh := fun (g : Int → Int) (j : Nat) (h : QJ (sizeF (shN m) m (bF V2.T V2.H)) left x j g) => qj_fresh h hfx hlx (j := j)
                have hQ0 := qj_zero (x := x) hQ
                obtain ⟨f, hf⟩ : ∃ f, f = sizeF (shN m) m (bF V2.T V2.H) := ⟨_, rfl⟩
                rw [← hf] at z2 z4 z5 hfx hfI hnx hrg25 hen hfx0 hfresh hQ0
                rw [← hf]
                obtain ⟨kx, hkx⟩ : ∃ z, z = f x := ⟨_, rfl⟩
                rw [← hkx] at z2 z4 z5 hfI hnx hen hfx0
                have t1 : ¬ x < 192 := by omega
                have t2 := IntWalk.i64_in (x + kx) (by omega)
                have t3 := IntWalk.i64_in (1024 * (m : Int)) (by omega)
                have t4 := IntWalk.i64_in (192 + 1024 * (m : Int)) (by omega)
                have t5 : ¬ 192 + 1024 * (m : Int) < x + kx := by omega
                have t6 : x.tmod 64 = 0 := by rw [Int.tmod_eq_emod_of_nonneg (by omega)]; omega
                simp -implicitDefEqProofs [go_sem, q5, q6, q7, q8, q15, q16, q38, q39, q40, q131, hnx, hen, hR25.sh.cell, shapeC_1, shapeC_3, shN, t1, t2, t3, t4, t5, t6]
                refine wpE_loop (fun e3 w' => ∃ (j na' : Nat) (g : Int → Int) (z : Int), 64 * (j : Int) ≤ kx ∧ na' ≤ na + j ∧ z = x + 64 * (j : Int) ∧ e3 5 = .pointer (some ⟨p, 0, none⟩) ∧ e3 6 = .pointer (some ⟨b, 0, none⟩) ∧ e3 7 = .map (some bm) ∧ e3 8 = .slice (some ⟨bt, ot, none⟩) n c ∧ e3 15 = .pointer (some ⟨gs, 0, none⟩) ∧ e3 16 = .map (some ba) ∧
                  e3 17 = .int .i64 x ∧ e3 18 = .int .i64 kx ∧ e3 19 = .int .i64 z ∧ e3 38 = .slice (some ⟨bA, oA, none⟩) l1.length cap1 ∧ e3 39 = .int .i64 (l1.length : Int) ∧ e3 40 = .int .i64 (k : Int) ∧ e3 131 = .pointer (some ⟨rr, 0, none⟩) ∧
                  Rest w0 w' m b p tb tc hb hc V2 F8 B bm (some ⟨bt, ot, none⟩) n c xs gs ∧ RangeI w' bm rr nm f (fun z => left z && !decide (z = x)) cnt' ∧ MapI w' ba na' g ∧ QJ f left x j g) (fun e3 _ => (x + kx - intOf (e3 19)).toNat) ?_ ?_
                · refine ⟨0, na, g, x, by omega, by omega, by omega, ?_⟩
                  simp -implicitDefEqProofs [go_sem, q5, q6, q7, q8, q15, q16, q38, q39, q40, q131]
                  exact ⟨hR25, hrg25, hMa25, hQ0⟩
                · clear hR25 hrg25 hMa25 hQ0 hQ hMa hrg hR
                  rintro e3 w26 ⟨j, na', g, z, hj1, hj2, hz, p5, p6, p7, p8, p15, p16, p17, p18, p19, p38, p39, p40, p131, hR, hrg, hMa, hQJ⟩
                  have t7 := IntWalk.i64_in (z + 64) (by omega)
                  by_cases hjk : 64 * (j : Int) < kx
                  · have t8 : z < x + kx := by omega
                    have hzI : I64 z := by unfold I64; omega
                    have hg0 : g z = 0 := by rw [hz]; exact hfresh g j hQJ (by omega) (by rw [← hz]; exact hzI)
                    have hl1 := hMa.look (t := 29) Tryd.underlying29 hzI
                    rw [hg0] at hl1
                    obtain ⟨w27, hr27, hMa27, hg27⟩ := hMa.put (t := 29) Tryd.underlying29 (by unfold maxLen; omega) hzI (v := 1) (by unfold I64; omega) (by omega)
                    have hl2 := hMa27.look (t := 29) Tryd.underlying29 hzI
                    rw [if_pos rfl] at hl2
                    have hR27 := hR.one hg27 (fun h => by have := hlt21 _ h; omega) (fun h => by have := hown20 _ h; omega) (by omega) (by have := bel20.size; omega)
                    have hrg27 := hrg.kept hg27 (fun e => by cases e; omega) (fun e => by cases e; omega)
                    have hQJ' := qj_succ hQJ
                    rw [← hz] at hQJ'
                    have t9 : IntKind.i64.wrap 1 = 1 := by decide
                    simp -implicitDefEqProofs [go_sem, p5, p6, p7, p8, p15, p16, p17, p18, p19, p38, p39, p40, p131, t2, t8, hl1, t9, hr27, hl2, t7]
                    refine goE_round ⟨j + 1, na' + 1, fun q => if q = z then 1 else g q, z + 64, by omega, by omega, by omega, ?_⟩ ?_
                    · simp -implicitDefEqProofs [go_sem, p5, p6, p7, p8, p15, p16, p17, p18, p19, p38, p39, p40, p131]
                      exact ⟨hR27, hrg27, hMa27, hQJ'⟩
                    · simp -implicitDefEqProofs [go_sem, intOf, p19, t7]; omega
                  · have t8 : ¬ z < x + kx := by omega
                    have hQe := qj_end hQJ (by omega) (by omega)
                    have hrl2 : w26.rangeLeft bm rr = cnt' := hrg.left_eq
                    simp -implicitDefEqProofs [go_sem, p5, p6, p7, p8, p15, p16, p17, p18, p19, p38, p39, p40, p131, t2, t8]
                    refine goE_round ⟨fun z => left z && !decide (z = x), cnt', na', g, by omega, ?_⟩ ?_
                    · simp -implicitDefEqProofs [go_sem, p5, p6, p7, p8, p15, p16, p17, p18, p19, p38, p39, p40, p131]
                      exact ⟨hR, hrg, hMa, hQe⟩
                    · rw [hrl2, hrl0]; exact hlt25
    · have hk' : k = l1.length := by omega
      simp -implicitDefEqProofs [go_sem, g5, g6, g7, g8, g38, g39, g40, hk']
      refine body_tmp 4 rfl ?_
      simp -implicitDefEqProofs [go_sem]
      exact bel6
end Go.Proofs.YtcpackbljaabnaaDoor
