/- law07.alive. -/
import Derived.Test.YtcpackbljaabnaaGreatDoorPoolWc
namespace Go.Proofs.YtcpackbljaabnaaGreatDoor
set_option linter.unusedVariables false
set_option linter.unusedSimpArgs false
set_option maxRecDepth 100000
open Go Go.RowKit

theorem al_dropV {D : NM.Dv} (h : (runS D (putS 128 0#64)).2 = 0) : dropV (shN 1) ⟨[oneW], [0#64], D⟩ 192 = (⟨[0#64], [0#64], (runS D (putS 128 0#64)).1⟩, 0) := by
  unfold dropV
  dsimp only
  rw [show ([oneW] : List (BitVec 64)).length = 1 from rfl, al_find2]
  dsimp only
  rw [show ([oneW] : List (BitVec 64)).getD 0 0#64 = oneW from rfl, show ([0#64] : List (BitVec 64)).getD 0 0#64 = 0#64 from rfl, show ((0 : Nat) : Int) = 0 from rfl, al_has0, if_neg (by decide), if_pos al_has, al_drop]
  have e : (putV ⟨[oneW], [0#64], D⟩ 0 0#64).2 = 0 := h
  have e2 : (putV ⟨[oneW], [0#64], D⟩ 0 0#64).1.T = [0#64] := if_pos h
  refine Prod.ext ?_ e
  exact congrArg (fun x => PV.mk x [0#64] (runS D (putS 128 0#64)).1) (if_pos h)
theorem al_dropN {D : NM.Dv} : dropV (shN 1) ⟨[0#64], [0#64], D⟩ 192 = (⟨[0#64], [0#64], D⟩, 7) := by
  unfold dropV
  dsimp only
  rw [show ([0#64] : List (BitVec 64)).length = 1 from rfl, al_find0]
theorem beg_small {m : Nat} (hm : m ≤ 4) : (begD m).steps ≤ 100000 := by
  have := NM.format_steps (D := NM.dev0 (3 + 16 * m)) (by rw [dev0_len']; omega)
  have hs0 : (NM.dev0 (3 + 16 * m)).steps = 0 := rfl
  unfold begD; omega
theorem Tabs.turn' {w w' : World} {G : Nat → Prop} (h : Tabs w) (hb : Below w.heap.size w w') : Tabs w' := h.next hb
section
set_option maxHeartbeats 8000000
theorem poolAlive_calls (w0 : World) (hF : Fours w0) (hT : Tabs w0) : Ret Tryz.prog 4 #[] w0 fun v w' => v = .bool true ∧ Below w0.heap.size w0 w' := by
  have bel0 := Below.refl w0.heap.size w0
  have hdat : 0 ≤ (shN 1).data ∧ (shN 1).data ≤ 1000000 := by decide
  refine ret_of (args := []) _ Tryz.func4 rfl Tryz.ntmps4 (by simp) ?_
  simp -implicitDefEqProofs [go_sem]
  refine callE_of (begin_calls 1 (by omega) w0 hF) ?_
  rintro v w1 ⟨p, b, tb, tc, hb, hc, F, rfl, h1, b1, hge⟩
  have bel1 := bel0.trans b1
  have h1 : PD w1 b p (shN 1) (PV.mk [0#64] [0#64] (begD 1)).T (PV.mk [0#64] [0#64] (begD 1)).H tb tc hb hc F (PV.mk [0#64] [0#64] (begD 1)).D := h1
  simp -implicitDefEqProofs [go_sem]
  refine callE_of (poolReserve_calls _ 1 (.inl rfl) w1 h1 (hT.next bel1) (by decide) hdat) ?_
  rintro v w2 ⟨rfl, h2, t2⟩
  rw [al_res1] at h2 ⊢
  have bel2 : Below w0.heap.size w0 w2 := bel1.trans (t2.mod.below bel1.size hge)
  simp -implicitDefEqProofs [go_sem]
  refine callE_of (poolReserve_calls _ 2 (.inr rfl) w2 h2 (hT.next bel2) (by decide) hdat) ?_
  rintro v w3 ⟨rfl, h3, t3⟩
  rw [al_res2] at h3 ⊢
  have bel3 : Below w0.heap.size w0 w3 := bel2.trans (t3.mod.below bel2.size hge)
  simp -implicitDefEqProofs [go_sem]
  have h3 : PD w3 b p (shN 1) (PV.mk [0#64] [oneW] (begD 1)).T (PV.mk [0#64] [oneW] (begD 1)).H tb tc hb hc F (PV.mk [0#64] [oneW] (begD 1)).D := h3
  have hHeld : Ret Tryz.prog 15 #[.pointer (some ⟨b, 0, none⟩)] w3 fun v w' => v = .int .i64 1 ∧ Below w3.heap.size w3 w' := by
    refine (poolHeld_calls w3 h3.pool (by decide)).mono ?_
    rintro v w' ⟨rfl, h⟩
    exact ⟨congrArg (fun n : Nat => Value.int .i64 (n : Int)) al_many1, h⟩
  refine callE_of hHeld ?_
  rintro v w4 ⟨rfl, b4⟩
  have h4 := h3.next b4
  have bel4 := bel3.trans (b4.mono bel3.size)
  obtain ⟨f1, f2, f3, f4, f5, f6⟩ := beg_facts (m := 1) (by omega)
  have hsz : (begD 1).size = 64 * 19 := by unfold NM.Dv.size; rw [f5]
  obtain ⟨u1, u2, u3, u4, u5, u6⟩ := put_up f4 f3 (by rw [f5]; omega) (o := 128) (by omega) (by omega) oneW
  have hsb := beg_small (m := 1) (by omega)
  have hst : (begD 1).steps + 3 < 1099511627776 := by omega
  simp -implicitDefEqProofs [go_sem]
  refine callE_of (poolTake_calls (PV.mk [0#64] [oneW] (begD 1)) 192 w4 h4 rfl (by decide) hst (by unfold I64; omega) hdat) ?_
  rw [al_take u1]
  rintro v w5 ⟨rfl, F5, h5, t5⟩
  have h5 : PD w5 b p (shN 1) [oneW] [0#64] tb tc hb hc F5 (runS (begD 1) (putS 128 oneW)).1 := h5
  have hge4 : ∀ k, PdK b tb hb F k → w0.heap.size ≤ k := hge
  have bel5 : Below w0.heap.size w0 w5 := bel4.trans (t5.mod.below bel4.size hge)
  have hge5 : ∀ k, PdK b tb hb F5 k → w0.heap.size ≤ k := t5.ge bel4.size hge
  have hcalm := NM.put_calm f4 f3 (by rw [f5]; omega) (o := 128) (by omega) (by omega) oneW (beg_calm (m := 1) (by omega))
  have hopen := NM.put_open f4 f3 (by rw [f5]; omega) (o := 128) (by omega) (by omega) (by omega) oneW
  have hwell : Well 1 ⟨[oneW], [0#64], (runS (begD 1) (putS 128 oneW)).1⟩ := by
    have := (well_take (s := shN 1) (V := ⟨[0#64], [oneW], begD 1⟩) (m := 1) (by
      have h := (well_reserve (s := shN 1) (c := 1) (well_zero (m := 1) (by omega)) (.inl rfl)).1
      have e := al_res1 (begD 1)
      have e2 : reserveV (shN 1) ⟨List.replicate 1 0#64, List.replicate 1 0#64, begD 1⟩ 1 = _ := e
      rw [e2] at h; exact h) (by omega) 192).1
    rw [al_take u1] at this; exact this
  have hstp := runS_steps (begD 1) (putS 128 oneW)
  rw [show (putS 128 oneW).length = 3 from rfl] at hstp
  generalize hD : (runS (begD 1) (putS 128 oneW)).1 = D at *
  simp -implicitDefEqProofs [go_sem]
  have hCls : Ret Tryz.prog 23 #[.pointer (some ⟨b, 0, none⟩), .int .i64 192] w5 fun v w' => v = .int .i64 1 ∧ Below w5.heap.size w5 w' := by
    refine (poolClass_calls 192 w5 h5.pool (by decide) (by unfold I64; omega) hdat).mono ?_
    rintro v w' ⟨rfl, h⟩
    exact ⟨by rw [al_class], h⟩
  refine callE_of hCls ?_
  rintro v w6 ⟨rfl, b6⟩
  have h6 := h5.next b6
  have bel6 := bel5.trans (b6.mono bel5.size)
  have hHeld0 : Ret Tryz.prog 15 #[.pointer (some ⟨b, 0, none⟩)] w6 fun v w' => v = .int .i64 0 ∧ Below w6.heap.size w6 w' := by
    refine (poolHeld_calls w6 h6.pool (by decide)).mono ?_
    rintro v w' ⟨rfl, h⟩
    exact ⟨congrArg (fun n : Nat => Value.int .i64 (n : Int)) al_many0, h⟩
  simp -implicitDefEqProofs [go_sem]
  refine callE_of hHeld0 ?_
  rintro v w7 ⟨rfl, b7⟩
  have h7 := h6.next b7
  have bel7 := bel6.trans (b7.mono bel6.size)
  simp -implicitDefEqProofs [go_sem]
  refine callE_of (crashB none 0 [] w7 h7.dev (by exact ⟨.inl rfl, by decide, by decide, fun _ => rfl⟩) (fun h => absurd rfl h) (by omega)) ?_
  rintro v w8 ⟨rfl, F8, h8, t8⟩
  have hP8 := h7.turn h8 t8
  have hDl : D.ls.length = 19 := hwell.lines
  have hDs : D.size = 64 * 19 := by unfold NM.Dv.size; rw [hDl]
  have hw8 : Well 1 ⟨[oneW], [0#64], D.crash []⟩ := ⟨rfl, rfl, hwell.pair, NM.Dv.Up.crash (by omega) [], h8.ok, (NM.crash_len D []).trans hwell.lines, fun i hi => (NM.calm_word hcalm [] (by omega)).trans (hwell.tab i hi)⟩
  have ho8 : (D.crash []).openH = (shN 1, 0) := by rw [NM.calm_open hcalm hwell.up (by omega) [], hopen, f2]
  obtain ⟨t1, t2'⟩ := well_tab hw8 (by omega)
  have t1 : openE (D.crash []) 1 = none := t1
  have t2' : tabD (D.crash []) 1 = [oneW] := t2'
  have bel8 : Below w0.heap.size w0 w8 := bel7.trans (t8.mod.below bel7.size (fun k hk => hge5 k (.inl hk)))
  have hge8 : ∀ k, F8 k → w0.heap.size ≤ k := t8.ge bel7.size (fun k hk => hge5 k (.inl hk))
  have hst8 : (D.crash []).steps + 3 < 1099511627776 := by
    have e : (D.crash []).steps = D.steps := by unfold NM.Dv.crash; split <;> rfl
    omega
  have hst7 : (D.crash []).steps ≤ 100003 := by
    have e : (D.crash []).steps = D.steps := by unfold NM.Dv.crash; split <;> rfl
    omega
  generalize hDc : D.crash [] = E at *
  simp -implicitDefEqProofs [go_sem]
  refine callE_of (poolOpen_calls 1 w8 h8 (hF.next bel8) (by omega) (fun _ => by rw [ho8]; exact ⟨rfl, rfl⟩)) ?_
  rintro v w9 hO
  unfold OpenP at hO
  rw [ho8, t1, t2'] at hO
  rcases hO with ⟨h, _⟩ | ⟨_, ⟨e, h, _⟩ | ⟨_, q, ta, tac, ha, hac, rfl, hQ, b9, hgq⟩⟩
  · exact absurd rfl h
  · cases h
  · have h9 := h8.next b9
    have hP9 := hP8.next b9
    have bel9 := bel8.trans (b9.mono bel8.size)
    have hQD : PD w9 q p (shN 1) [oneW] [0#64] ta tac ha hac F8 E := ⟨hQ, h9, fun k hk hk2 => by
      have := hgq k hk
      have := h8.lt k hk2
      omega⟩
    simp -implicitDefEqProofs [go_sem]
    have hAll : ∀ w, PoolAt w q p (shN 1) [oneW] [0#64] ta tac ha hac → Ret Tryz.prog 18 #[.pointer (some ⟨q, 0, none⟩)] w fun v w' => ∃ a c, v = .slice a 1 c ∧ VsIn w' a (nats [192]) c ∧ Below w.heap.size w w' := fun w hw => by
      refine (poolAll_calls w hw (by decide) hdat).mono ?_
      rintro v w' ⟨a, c, rfl, hv, hb⟩
      rw [show allK (shN 1) [oneW] [oneW].length = [192] from al_all] at hv ⊢
      exact ⟨a, c, rfl, hv, hb⟩
    refine callE_of (hAll w9 hQ) ?_
    rintro v w10 ⟨a10, c10, rfl, hv10, b10⟩
    have hQ10 := hQ.next b10
    simp -implicitDefEqProofs [go_sem]
    refine callE_of (hAll w10 hQ10) ?_
    rintro v w11 ⟨a11, c11, rfl, hv11, b11⟩
    have hQD11 := (hQD.next b10).next b11
    have bel11 := (bel9.trans (b10.mono bel9.size))
    have bel11 := bel11.trans (b11.mono bel11.size)
    obtain ⟨ba, oa, rfl, ga⟩ := hv11.at_.cell (i := 0) (by decide)
    have ga : w11.cell? ⟨ba, oa, none⟩ = some (.int .i64 192) := ga
    simp -implicitDefEqProofs [go_sem, ga]
    obtain ⟨z1, z2, z3, z4, z5, z6⟩ := put_up hw8.ok hw8.up (by rw [hw8.lines]; omega) (o := 128) (by omega) (by unfold NM.Dv.size; rw [hw8.lines]; omega) 0#64
    have z1 : (runS E (putS 128 0#64)).2 = 0 := z1
    refine callE_of (poolDrop_calls ⟨[oneW], [0#64], E⟩ 192 w11 hQD11 rfl (show 1 ≤ 64 by decide) hst8 (by unfold I64; omega) hdat) ?_
    rw [al_dropV z1]
    rintro v w12 ⟨rfl, F12, h12, t12⟩
    have h12 : PD w12 q p (shN 1) [0#64] [0#64] ta tac ha hac F12 (runS E (putS 128 0#64)).1 := h12
    have hlt8 : ∀ k, (k = b ∨ k = tb ∨ k = hb) → ¬ PdK q ta ha F8 k := fun k hk hk2 => by
      have := hP8.lt k (.inr hk)
      rcases hk2 with hk2 | hk2
      · exact hP8.apart k hk hk2
      · have := hgq k hk2; omega
    have hge11 : ∀ k, PdK q ta ha F8 k → w0.heap.size ≤ k := fun k hk => by
      rcases hk with hk | hk
      · exact hge8 k hk
      · have := hgq k hk; have := bel8.size; omega
    have bel12 : Below w0.heap.size w0 w12 := bel11.trans (t12.mod.below bel11.size hge11)
    have hP11 := (hP9.pool.next b10).next b11
    have hP12 := hP11.mod t12.mod hlt8
    have hlt12 : ∀ k, (k = b ∨ k = tb ∨ k = hb) → ¬ PdK q ta ha F12 k := fun k hk hk2 => by
      rcases t12.new k hk2 with h | h
      · exact hlt8 k hk h
      · have h1 := hP8.lt k (.inr hk)
        have := b9.size; have := b10.size; have := b11.size; omega
    have hge12 : ∀ k, PdK q ta ha F12 k → w0.heap.size ≤ k := t12.ge bel11.size hge11
    have hst9 : (runS E (putS 128 0#64)).1.steps + 3 < 1099511627776 := by
      have := runS_steps E (putS 128 0#64)
      rw [show (putS 128 0#64).length = 3 from rfl] at this
      omega
    generalize hE2 : (runS E (putS 128 0#64)).1 = E2 at *
    simp -implicitDefEqProofs [go_sem]
    have hAll0 : Ret Tryz.prog 18 #[.pointer (some ⟨q, 0, none⟩)] w12 fun v w' => ∃ a c, v = .slice a 0 c ∧ Below w12.heap.size w12 w' := by
      refine (poolAll_calls w12 h12.pool (by decide) hdat).mono ?_
      rintro v w' ⟨a, c, rfl, hv, hb⟩
      rw [show allK (shN 1) [0#64] [0#64].length = [] from al_all0]
      exact ⟨a, c, rfl, hb⟩
    refine callE_of hAll0 ?_
    rintro v w13 ⟨a13, c13, rfl, b13⟩
    have h13 := h12.next b13
    have hP13 := hP12.next b13
    have bel13 := bel12.trans (b13.mono bel12.size)
    simp -implicitDefEqProofs [go_sem]
    refine callE_of (poolDrop_calls ⟨[0#64], [0#64], E2⟩ 192 w13 h13 rfl (show 1 ≤ 64 by decide) hst9 (by unfold I64; omega) hdat) ?_
    rw [al_dropN]
    rintro v w14 ⟨rfl, F14, h14, t14⟩
    have hP14 := hP13.mod t14.mod hlt12
    have bel14 : Below w0.heap.size w0 w14 := bel13.trans (t14.mod.below bel13.size hge12)
    simp -implicitDefEqProofs [go_sem]
    refine callE_of (poolShape_calls w14 hP14) ?_
    rintro v w15 ⟨rfl, b15⟩
    have bel15 := bel14.trans (b15.mono bel14.size)
    have hfd : ∀ w : World, (Instr.field 61 (.agg (shapeC (shN 1))) 1).run Tryz.prog w = .ok (.int .i64 1) w := fun _ => by kernel_rfl
    simp -implicitDefEqProofs [go_sem, hfd]
    refine body_tmp 0 rfl ?_
    simp -implicitDefEqProofs [go_sem]
    exact bel15
end
end Go.Proofs.YtcpackbljaabnaaGreatDoor
