/- PoolAgain: its walk. -/
import Derived.Test.YtcpackbljaabnaaDoorPoolLaw3
import Derived.Test.YtcpackbljaabnaaDoorPoolGood
import Derived.Test.YtcpackbljaabnaaDoorPoolActs
import Derived.Test.YtcpackbljaabnaaDoorPoolInts
namespace Go.Proofs.YtcpackbljaabnaaDoor
set_option linter.unusedVariables false
set_option linter.unusedSimpArgs false
set_option maxRecDepth 100000
open Go Go.RowKit

/-- Open of a device that a pool knows. -/
theorem openWell_calls {m k : Nat} {V : PV} {p : Nat} {F : Nat → Prop} (hm : 1 ≤ m ∧ m ≤ 4) (hg : Good m k V) (w : World) (h : DevB w p F V.D) (hF : Fours w) :
    Ret Tryd.prog 18 #[.pointer (some ⟨p, 0, none⟩)] w fun v w' => ∃ q ta tac ha hac, v = .tuple #[.pointer (some ⟨q, 0, none⟩), .int .i64 0] ∧ PoolAt w' q p (shN m) V.T (zL m) ta tac ha hac ∧ Below w.heap.size w w' ∧ (∀ k, (k = q ∨ k = ta ∨ k = ha) → w.heap.size ≤ k) := by
  obtain ⟨t1, t2⟩ := well_tab hg.well hm
  refine (poolOpen_calls m w h hF (by omega) (fun _ => by rw [hg.open_]; exact ⟨rfl, rfl⟩)).mono ?_
  intro v w' hO
  unfold OpenP at hO
  rw [hg.open_, t1, t2] at hO
  rcases hO with ⟨h, _⟩ | ⟨_, ⟨e, h, _⟩ | ⟨_, q, ta, tac, ha, hac, rfl, hQ, hb', hgq⟩⟩
  · exact absurd rfl h
  · cases h
  · exact ⟨q, ta, tac, ha, hac, rfl, hQ, hb', hgq⟩
theorem dat_ok (m : Nat) : 0 ≤ (shN m).data ∧ (shN m).data ≤ 1000000 := ⟨show (0 : Int) ≤ 192 by decide, show (192 : Int) ≤ 1000000 by decide⟩
theorem mod2_cases (x : BitVec 8) : ∃ c : Nat, (c = 1 ∨ c = 2) ∧ 1 + uv (x % 2#8) = (c : Int) ∧ I64 (uv (x % 2#8)) := by
  have h : (x % 2#8).toNat = x.toNat % 2 := by simp
  refine ⟨1 + x.toNat % 2, by omega, ?_, ?_⟩
  · unfold uv; rw [h]; omega
  · unfold uv I64; omega
/-- A pool's blocks lie apart from others. -/
def Away (G : Nat → Prop) (b tb hb : Nat) : Prop := ∀ k, (k = b ∨ k = tb ∨ k = hb) → ¬ G k
def AwayS (G : Nat → Prop) (a : Option Addr) : Prop := ∀ y, a = some y → ¬ G y.block
set_option maxHeartbeats 1000000 in
theorem poolAgain_walk (x0 : BitVec 8) (a1 : Option Addr) (l1 : List PAct) (cap1 : Nat) (w0 : World) (hF : Fours w0) (hT : Tabs w0) (in1 : PActsIn w0 a1 l1 cap1) :
    Ret Tryd.prog 7 #[.int .u8 (uv x0), .slice a1 l1.length cap1] w0 fun v w' => v = .bool true ∧ Below w0.heap.size w0 w' := by
  have bel0 := Below.refl w0.heap.size w0
  obtain ⟨m, hm⟩ : ∃ m, m = 1 + x0.toNat % 4 := ⟨_, rfl⟩
  have hm4 : 1 ≤ m ∧ m ≤ 4 := by omega
  obtain ⟨L, hL⟩ : ∃ L : Int, L = ((3 + 16 * m : Nat) : Int) := ⟨_, rfl⟩
  have hdat := dat_ok m
  refine ret_of (args := [_, _]) _ Tryd.func7 rfl Tryd.ntmps7 (by simp) ?_
  simp -implicitDefEqProofs [go_sem]
  refine callE_of (poolAlive_calls w0 hF hT) ?_
  rintro v w1 ⟨rfl, b1⟩
  have bel1 := bel0.trans (b1.mono bel0.size)
  by_cases h100 : (120 : Int) < l1.length
  · simp -implicitDefEqProofs [go_sem, h100]
    refine body_tmp 4 rfl ?_
    simp -implicitDefEqProofs [go_sem]
    exact bel1
  simp -implicitDefEqProofs [go_sem, h100]
  refine callE_of (linesL hm hL w1) ?_
  rintro v w2 ⟨rfl, rfl⟩
  simp -implicitDefEqProofs [go_sem]
  refine callE_of (beginL hm4 hL w2 (hF.next bel1)) ?_
  rintro v w3 ⟨p, b, tb, tc, hb, hc, F, rfl, hPD, b3, hge⟩
  have bel3 := bel1.trans (b3.mono bel1.size)
  have hge3 : ∀ k, PdK b tb hb F k → w0.heap.size ≤ k := fun k hk => Nat.le_trans bel1.size (hge k hk)
  have hg0 := good_zero hm4
  simp -implicitDefEqProofs [go_sem]
  refine wpE_loop (fun e' w' => ∃ (k : Nat) (V : PV) (F : Nat → Prop), k ≤ l1.length ∧ e' 5 = .pointer (some ⟨p, 0, none⟩) ∧ e' 6 = .pointer (some ⟨b, 0, none⟩) ∧ e' 32 = .slice a1 l1.length cap1 ∧ e' 33 = .int .i64 (l1.length : Int) ∧ e' 34 = .int .i64 (k : Int) ∧
    Good m k V ∧ PD w' b p (shN m) V.T V.H tb tc hb hc F V.D ∧ Below w0.heap.size w0 w' ∧ (∀ k, PdK b tb hb F k → w0.heap.size ≤ k)) (fun e' _ => l1.length - (intOf (e' 34)).toNat) ?_ ?_
  · refine ⟨0, ⟨zL m, zL m, begD m⟩, F, by omega, ?_⟩
    simp -implicitDefEqProofs [go_sem]
    exact ⟨hg0, hPD, bel3, hge3⟩
  · clear hPD hge hge3 bel3 b3
    rintro e' w4 ⟨k, V, F, hk, g5, g6, g32, g33, g34, hg, hPD, bel4, hge⟩
    have hn : V.T.length ≤ 64 := by rw [hg.well.len]; omega
    have hstp := hg.steps
    by_cases hlt : k < l1.length
    · have hlt' : (k : Int) < l1.length := by omega
      have k1 := IntWalk.i64_in ((k : Int) + 1) (by omega)
      obtain ⟨ba, oa, rfl, hcell, hoff⟩ := (in1.next bel4).get hlt
      obtain ⟨A, hA⟩ : ∃ A, A = l1[k] := ⟨_, rfl⟩
      rw [← hA] at hcell hoff
      have hld := ldCells (P := Tryd.prog) (w := w4) (g := ba) (o := oa + k * 2) (cs := A.cs) Tryd.underlying32 rfl pactI rfl hcell
      have hst := pactNew A
      obtain ⟨c, hc12, hc, hc64⟩ := mod2_cases A.kind
      have kc := IntWalk.i64_in (c : Int) (by omega)
      have kr : IntKind.i64.wrap (uv (A.kind % 2#8)) = uv (A.kind % 2#8) := IntWalk.i64_in _ hc64
      simp -implicitDefEqProofs [go_sem, g5, g6, g32, g33, g34, hlt, hlt', ↓hld, ↓hst]
      have hlt4 := hPD.lt
      generalize hw5 : World.alloc w4 _ = w5 at *
      obtain ⟨hB5, b5, sz5⟩ := new_facts hw5
      have bel5 := bel4.trans (b5.mono bel4.size)
      replace hPD := hPD.next b5
      have hres := poolReserve_calls V c hc12 w5 hPD (hT.next bel5) hn hdat
      simp -implicitDefEqProofs [go_sem, g5, g6, hB5.cell, A.c0, hc, kc, kr]
      refine callE_of hres ?_
      rintro v w6 ⟨rfl, hPD6, t6⟩
      have hB6 := hB5.mod t6.mod (fun h => by have := hlt4 _ h; omega)
      have bel6 := bel5.trans (t6.mod.below bel5.size hge)
      have hg6 := hg.reserve (shN m) hc12
      have h00 := (well_reserve (s := shN m) hg.well hc12).2
      have htk := res_take (s := shN m) hg.well hm4 hc12
      obtain ⟨n, hn1, hn2⟩ := res_small hg.well hm4 hc12
      obtain ⟨R, hR⟩ : ∃ R, R = reserveV (shN m) V c := ⟨_, rfl⟩
      rw [← hR] at hPD6 hg6 h00 htk hn1 ⊢
      obtain ⟨V1, x, e⟩ := R
      dsimp only at hPD6 hg6 h00 htk hn1 ⊢
      subst hn1
      have hn6 : V1.T.length ≤ 64 := by rw [hg6.well.len]; omega
      have hst6 := hg6.steps
      rcases h00 with rfl | ⟨rfl, -⟩
      · obtain ⟨r, hr⟩ : ∃ r, r = A.kind % 3#8 := ⟨_, rfl⟩
        by_cases hr0 : 0 < uv r
        · simp -implicitDefEqProofs [go_sem, g5, g6, hB6.cell, A.c0, ← hr, hr0]
          have hg7 := hg6.take hm4 (shN m) (n : Int)
          have htk := htk rfl
          have htake := poolTake_calls V1 (n : Int) w6 hPD6 rfl hn6 (by omega) (by unfold I64; omega) hdat
          rw [htk] at htake
          generalize (takeV (shN m) V1 (n : Int)).1 = V2 at *
          refine callE_of htake ?_
          rintro v w7 ⟨rfl, F7, hPD7, t7⟩
          have bel7 := bel6.trans (t7.mod.below bel6.size hge)
          simp -implicitDefEqProofs [go_sem, g5, g6, g32, g33, g34, k1]
          refine goE_round ⟨k + 1, V2, F7, by omega, ?_⟩ ?_
          · simp -implicitDefEqProofs [go_sem, g5, g6, g32, g33]
            exact ⟨hg7, hPD7, bel7, t7.ge bel6.size hge⟩
          · simp -implicitDefEqProofs [go_sem, intOf, g34, k1]; omega
        · simp -implicitDefEqProofs [go_sem, g5, g6, hB6.cell, A.c0, ← hr, hr0, g32, g33, g34, k1]
          refine goE_round ⟨k + 1, V1, F, by omega, ?_⟩ ?_
          · simp -implicitDefEqProofs [go_sem, g5, g6, g32, g33]
            exact ⟨hg6.mono (by omega), hPD6, bel6, hge⟩
          · simp -implicitDefEqProofs [go_sem, intOf, g34, k1]; omega
      · simp -implicitDefEqProofs [go_sem, g5, g6, g32, g33, g34, k1]
        refine goE_round ⟨k + 1, V1, F, by omega, ?_⟩ ?_
        · simp -implicitDefEqProofs [go_sem, g5, g6, g32, g33]
          exact ⟨hg6.mono (by omega), hPD6, bel6, hge⟩
        · simp -implicitDefEqProofs [go_sem, intOf, g34, k1]; omega
    · have hk' : k = l1.length := by omega
      simp -implicitDefEqProofs [go_sem, g5, g6, g32, g33, g34, hk']
      refine callE_of (openWell_calls hm4 hg w4 hPD.dev (hF.next bel4)) ?_
      rintro v w5 ⟨q, ta, tac, ha, hac, rfl, hQ, b5, hgq⟩
      have bel5 := bel4.trans (b5.mono bel4.size)
      have hPD5 := hPD.next b5
      have hap : Away (PdK q ta ha F) b tb hb := fun k hk hk2 => by
        rcases hk2 with hk2 | hk2
        · exact hPD.apart k hk hk2
        · have := hgq k hk2; have := hPD.lt k (.inr hk); omega
      have hQD : PD w5 q p (shN m) V.T (zL m) ta tac ha hac F V.D := ⟨hQ, hPD5.dev, fun k hk hk2 => by
        have := hgq k hk
        have := hPD.lt k (.inl hk2)
        omega⟩
      have hgeQ : ∀ k, PdK q ta ha F k → w0.heap.size ≤ k := fun k hk => by
        rcases hk with hk | hk
        · exact hge k (.inl hk)
        · have := hgq k hk; have := bel4.size; omega
      obtain ⟨LA, hLA⟩ : ∃ LA, LA = allK (shN m) V.T m := ⟨_, rfl⟩
      have hAll : ∀ w b T H tb tc hb hc, T = V.T → PoolAt w b p (shN m) T H tb tc hb hc → Ret Tryd.prog 22 #[.pointer (some ⟨b, 0, none⟩)] w fun v w' => ∃ a c, v = .slice a LA.length c ∧ VsIn w' a (nats LA) c ∧ Below w.heap.size w w' ∧ (∀ y, a = some y → w.heap.size ≤ y.block) := by
        rintro w b T H tb tc hb hc rfl hw
        have := poolAllN_calls w hw hn hdat
        rw [hg.well.len, ← hLA] at this; exact this
      simp -implicitDefEqProofs [go_sem, g5, g6]
      refine callE_of (hAll w5 _ _ _ _ _ _ _ rfl hPD5.pool) ?_
      rintro v w6 ⟨a6, c6, rfl, hv6, b6, -⟩
      have hQD6 := hQD.next b6
      simp -implicitDefEqProofs [go_sem, g5, g6]
      refine callE_of (hAll w6 _ _ _ _ _ _ _ rfl hQD6.pool) ?_
      rintro v w7 ⟨a7, c7, rfl, hv7, b7, -⟩
      have hQD7 := hQD6.next b7
      have hP7 := (hPD5.pool.next b6).next b7
      have bel7 := (bel5.trans (b6.mono bel5.size))
      have bel7 := bel7.trans (b7.mono bel7.size)
      simp -implicitDefEqProofs [go_sem, g5, g6]
      refine callE_of (sameI_calls a6 a7 LA LA c6 c7 w7 (hv6.next b7) hv7) ?_
      rintro v w8 ⟨rfl, b8⟩
      have hQD8 := hQD7.next b8
      have hP8 := hP7.next b8
      have bel8 := bel7.trans (b8.mono bel7.size)
      rw [decide_eq_true (rfl : LA = LA)]
      simp -implicitDefEqProofs [go_sem, g5, g6]
      have hheld : Ret Tryd.prog 23 #[.pointer (some ⟨q, 0, none⟩)] w8 fun v w' => v = .int .i64 0 ∧ Below w8.heap.size w8 w' := by
        refine (poolHeld_calls w8 hQD8.pool hn).mono ?_
        rintro v w' ⟨rfl, h⟩
        refine ⟨?_, h⟩
        rw [many_zero]; rfl
      refine callE_of hheld ?_
      rintro v w9 ⟨rfl, b9⟩
      have hQD9 := hQD8.next b9
      have hP9 := hP8.next b9
      have bel9 := bel8.trans (b9.mono bel8.size)
      simp -implicitDefEqProofs [go_sem, g5, g6]
      refine callE_of (hAll w9 _ _ _ _ _ _ _ rfl hQD9.pool) ?_
      rintro v w10 ⟨a10, c10, rfl, hv10, b10, hn10⟩
      have hQD10 := hQD9.next b10
      have hP10 := hP9.next b10
      have bel10 := bel9.trans (b10.mono bel9.size)
      simp -implicitDefEqProofs [go_sem, g5, g6]
      have hlt9 := hQD9.lt
      have hLAn : LA.length ≤ 64 := by have := allK_len (shN m) V.T m; rw [← hLA] at this; omega
      refine wpE_loop (fun e2 w' => ∃ (i : Nat) (F : Nat → Prop), i ≤ LA.length ∧ e2 6 = .pointer (some ⟨b, 0, none⟩) ∧ e2 11 = .pointer (some ⟨q, 0, none⟩) ∧ e2 88 = .slice a10 LA.length c10 ∧ e2 89 = .int .i64 (LA.length : Int) ∧ e2 90 = .int .i64 (i : Int) ∧
        PD w' q p (shN m) V.T (zL m) ta tac ha hac F V.D ∧ PoolAt w' b p (shN m) V.T V.H tb tc hb hc ∧ VsIn w' a10 (nats LA) c10 ∧ Away (PdK q ta ha F) b tb hb ∧ AwayS (PdK q ta ha F) a10 ∧ Below w0.heap.size w0 w' ∧ (∀ k, PdK q ta ha F k → w0.heap.size ≤ k)) (fun e2 _ => LA.length - (intOf (e2 90)).toNat) ?_ ?_
      · refine ⟨0, F, by omega, ?_⟩
        simp -implicitDefEqProofs [go_sem, g5, g6]
        exact ⟨hQD10, hP10, hv10, hap, fun y hy hk => by have := hn10 y hy; have := hlt9 _ hk; omega, bel10, hgeQ⟩
      · clear hPD hge hPD5 hap hQD hgeQ hQD6 hQD7 hQD8 hQD9 hQD10 hP7 hP8 hP9 hP10 hv10 hlt9 hn10 bel10 hv6 hv7
        rintro e2 w11 ⟨i, F, hi, q6, q11, q88, q89, q90, hQD, hP, hv, hap, hav, bel11, hge⟩
        by_cases hil : i < LA.length
        · have hil' : (i : Int) < LA.length := by omega
          have r1 := IntWalk.i64_in ((i : Int) + 1) (by omega)
          obtain ⟨ba, oa, rfl, gc⟩ := hv.nat hil
          have hmem : LA[i] ∈ allK (shN m) V.T m := by rw [← hLA]; exact List.getElem_mem hil
          generalize LA[i] = x at *
          obtain ⟨c, hc12, hc1, hc2, hc3⟩ := again_at hg.well hdat.1 hmem
          obtain ⟨cI, hcI⟩ : ∃ cI : Int, cI = (c : Int) := ⟨_, rfl⟩
          have hI : (cI == 0) = false := by rw [beq_eq_false_iff_ne]; omega
          rw [← hcI] at hc1 hc2
          have hx6 : I64 (x : Int) := by have := all_small hm4.2 hmem; unfold I64; omega
          have hcls : ∀ w, PoolAt w q p (shN m) V.T (zL m) ta tac ha hac → Ret Tryd.prog 21 #[.pointer (some ⟨q, 0, none⟩), .int .i64 (x : Int)] w fun v w' => v = .int .i64 cI ∧ Below w.heap.size w w' := fun w hw => by
            have := poolClass_calls (x : Int) w hw hn hx6 hdat
            rw [hc2] at this; exact this
          simp -implicitDefEqProofs [go_sem, q6, q11, q88, q89, q90, hil, hil', gc]
          refine callE_of (hcls w11 hQD.pool) ?_
          rintro v w12 ⟨rfl, b12⟩
          have hQD12 := hQD.next b12
          have bel12 := bel11.trans (b12.mono bel11.size)
          simp -implicitDefEqProofs [go_sem, q6, q11, hI]
          refine callE_of (hcls w12 hQD12.pool) ?_
          rintro v w13 ⟨rfl, b13⟩
          have hQD13 := hQD12.next b13
          have bel13 := bel12.trans (b13.mono bel12.size)
          have hP13 := (hP.next b12).next b13
          have hcls2 : Ret Tryd.prog 21 #[.pointer (some ⟨b, 0, none⟩), .int .i64 (x : Int)] w13 fun v w' => v = .int .i64 cI ∧ Below w13.heap.size w13 w' := by
            have := poolClass_calls (x : Int) w13 hP13 hn hx6 hdat
            rw [hc1] at this; exact this
          simp -implicitDefEqProofs [go_sem, q6, q11]
          refine callE_of hcls2 ?_
          rintro v w14 ⟨rfl, b14⟩
          have hQD14 := hQD13.next b14
          have hP14 := hP13.next b14
          have bel14 := bel13.trans (b14.mono bel13.size)
          have htake := poolTake_calls ⟨V.T, zL m, V.D⟩ (x : Int) w14 hQD14 rfl hn (show V.D.steps + 3 < 1099511627776 by omega) hx6 hdat
          rw [hc3 V.D] at htake
          simp -implicitDefEqProofs [go_sem, q6, q11]
          refine callE_of htake ?_
          rintro v w15 ⟨rfl, F15, hQD15, t15⟩
          have hv14 := ((hv.next b12).next b13).next b14
          have h11 := hQD.lt
          simp -implicitDefEqProofs [go_sem, q6, q11, q88, q89, q90, r1]
          refine goE_round ⟨i + 1, F15, by omega, ?_⟩ ?_
          · simp -implicitDefEqProofs [go_sem, q6, q11, q88, q89]
            refine ⟨hQD15, hP14.mod t15.mod hap, hv14.mod t15.mod hav, fun k hk hk2 => ?_, fun y hy hk2 => ?_, bel14.trans (t15.mod.below bel14.size hge), t15.ge bel14.size hge⟩
            · rcases t15.new k hk2 with h | h
              · exact hap k hk h
              · have : k < w14.heap.size := by
                  rcases hk with rfl | rfl | rfl
                  · exact hP14.blk.lt
                  · exact hP14.tk.lt
                  · exact hP14.hd.lt
                omega
            · rcases t15.new _ hk2 with h | h
              · exact hav y hy h
              · cases hy
                have h2 := World.block_lt_of_cell? w11 _ gc
                have := b12.size; have := b13.size; have := b14.size
                dsimp only at h h2; omega
          · simp -implicitDefEqProofs [go_sem, intOf, q90, r1]; omega
        · have hi' : i = LA.length := by omega
          simp -implicitDefEqProofs [go_sem, q6, q11, q88, q89, q90, hi']
          refine body_tmp 4 rfl ?_
          simp -implicitDefEqProofs [go_sem]
          exact bel11
end Go.Proofs.YtcpackbljaabnaaDoor
