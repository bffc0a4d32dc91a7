/- ChainLists: its walk. -/
import Derived.Test.YtejpophjiinijaaDoorChAlive
namespace Go.Proofs.YtejpophjiinijaaDoor
set_option linter.unusedVariables false
set_option linter.unusedSimpArgs false
set_option maxRecDepth 100000
open Go Go.RowKit

section
variable {m n k : Nat} {p : Nat} {F : Nat → Prop}
/-- A pool that is opened on a device of small blocks. -/
theorem reopen_calls (hm : m = 12) {V : PV} (hS : Soft m V) (hu : V.D.Up) (hst : V.D.steps ≤ 100000 + 3 * k) (w : World) (h : DevB w p F V.D) (hF : Fours w) :
    Ret Tryd.prog 28 #[.pointer (some ⟨p, 0, none⟩)] w fun v w' => ∃ q ta tac ha hac, v = .tuple #[.pointer (some ⟨q, 0, none⟩), .int .i64 0] ∧ PD w' q p (shN m) V.T (zL m) ta tac ha hac F V.D ∧ Below w.heap.size w w' ∧ (∀ k, (k = q ∨ k = ta ∨ k = ha) → w.heap.size ≤ k) := by
  refine (openWell_calls hm (hS.good hm hu hst) w h hF).mono ?_
  rintro v w' ⟨q, ta, tac, ha, hac, rfl, hQ, hb, hg⟩
  exact ⟨q, ta, tac, ha, hac, rfl, ⟨hQ, h.next hb, fun j hj hf => by have := hg j hj; have := h.lt j hf; omega⟩, hb, hg⟩
theorem ChI.count {S : BS} (h : ChI m n S) (hn : n ≤ 16 * m) : (allK (shN m) S.V.T m).length = n := by
  have := all_count h.soft.small (a := 0) (b := n) (Nat.zero_le _) hn (fun j hj => by
    rw [h.tab, tkn_tkL hj]
    exact decide_eq_decide.2 ⟨fun h => ⟨Nat.zero_le _, h⟩, fun h => h.2⟩)
  rw [this]; omega
end
theorem nil_u8 (w : World) : SlIn .u8 w none ([] : List (BitVec 8)) 0 := ⟨.inl rfl, Nat.le_refl _, by decide, fun _ => rfl⟩
section
set_option linter.unusedSimpArgs false
set_option maxHeartbeats 8000000
theorem chainLists_walk (a0 : Option Addr) (l : List LinkV) (cap : Nat) (w0 : World) (hF : Fours w0) (hT : Tabs w0) (hin : RcsIn w0 a0 l cap) :
    Ret Tryd.prog 9 #[.slice a0 l.length cap] w0 fun v w' => v = .bool true ∧ Below w0.heap.size w0 w' := by
  have bel0 := Below.refl w0.heap.size w0
  obtain ⟨m, hm⟩ : ∃ m : Nat, m = 12 := ⟨_, rfl⟩
  refine ret_of (args := [_]) _ Tryd.func9 rfl Tryd.ntmps9 (by simp) ?_
  simp -implicitDefEqProofs [go_sem]
  refine callE_of (chAlive_calls w0 hF hT) ?_
  rintro v w1 ⟨rfl, bel1⟩
  simp -implicitDefEqProofs [go_sem]
  refine callE_of (few_calls (hin.next bel1)) ?_
  rintro v w2 ⟨rfl, b2⟩
  have bel2 := bel1.trans (b2.mono bel1.size)
  cases hfew : fewB l
  · simp -implicitDefEqProofs [go_sem]
    refine body_tmp 2 rfl ?_
    simp -implicitDefEqProofs [go_sem]
    exact bel2
  have hl40 : l.length ≤ 40 := by unfold fewB at hfew; simp at hfew; exact hfew.2
  simp -implicitDefEqProofs [go_sem]
  refine callE_of (built_calls hm a0 l cap w2 (hF.next bel2) (hT.next bel2) (hin.next bel2) hl40) ?_
  have hB := blt hm l hl40 l.length (Nat.le_refl _)
  generalize bldS m l l.length = S at *
  obtain ⟨⟨n, hn, hC⟩, hu, hst, -⟩ := hB
  have hMn := hC.len
  rintro v w3 ⟨p, b, tb, tc, hb, hc, F, am, cm, rfl, hP, hge, hinM, hsep, b3⟩
  have bel3 := bel2.trans (b3.mono bel2.size)
  simp -implicitDefEqProofs [go_sem]
  refine callE_of (listOk_calls hm hP hC.soft hu.down (hC.listed hm (by omega) hu.down) hC.fall) ?_
  rintro v w4 ⟨ak, ck, rfl, hk4, hnk, b4⟩
  have bel4 := bel3.trans (b4.mono bel3.size)
  have hP4 := hP.next b4
  have hM4 := hinM.next b4
  have hge0 : ∀ k, PdK b tb hb F k → w0.heap.size ≤ k := fun k hk => by have := hge k hk; have := bel2.size; omega
  simp -implicitDefEqProofs [go_sem]
  refine callE_of (crashB none 0 [] w4 hP4.dev (nil_u8 w4) (fun h => absurd rfl h) (by omega)) ?_
  rintro v w5 ⟨rfl, F5, hd5, t5⟩
  obtain ⟨hS5, hu5⟩ := hC.soft.crash hm []
  have hst5 : (S.V.D.crash []).steps ≤ 100000 + 3 * 1000 := by rw [NM.crash_stepsE]; omega
  have hP5 := hP4.turn hd5 t5
  have tt5 := turn_pd (b := b) (tb := tb) (hb := hb) t5
  have bel5 := bel4.trans (tt5.mod.below bel4.size hge0)
  have hk5 := hk4.mod tt5.mod (fun y hy hf => by have := (hnk y hy).1; have := hP.lt _ hf; omega)
  have hM5 := hM4.mod tt5.mod (fun y hy => (hsep y hy).2.2)
  simp -implicitDefEqProofs [go_sem]
  refine callE_of (reopen_calls hm hS5 hu5 hst5 w5 hd5 (hF.next bel5)) ?_
  rintro v w6 ⟨q, ta, tac, ha, hac, rfl, hQ6, b6, hgq⟩
  have bel6 := bel5.trans (b6.mono bel5.size)
  have hst6 := hC.stands (by omega)
  have hL6 : Seg (fetch (shN m) S.V.T (zL m) (S.V.D.crash [])) S.first S.M 0#64 := lists hm hC.soft.small hS5.ds.lines hu5.down hC.lnk (fun k hk => stands_keep (hst6 k hk) (fun j _ _ h => h) (fun j hj _ w hw => hC.soft.ds.crash_word [] (by omega)))
  simp -implicitDefEqProofs [go_sem]
  refine callE_of (listOk_calls (V := ⟨S.V.T, zL m, S.V.D.crash []⟩) hm hQ6 hS5 hu5.down hL6 hC.fall) ?_
  rintro v w7 ⟨aj, cj, rfl, hj7, -, b7⟩
  have bel7 := bel6.trans (b7.mono bel6.size)
  have b57 := b6.trans (b7.mono b6.size)
  simp -implicitDefEqProofs [go_sem]
  have hou := ours_calls ak S.M ck w7 (hk5.next b57) (by omega)
  refine callE_of hou ?_
  rintro v w8 ⟨ao, co, rfl, ho8, b8, -⟩
  have bel8 := bel7.trans (b8.mono bel7.size)
  have b58 := b57.trans (b8.mono b57.size)
  simp -implicitDefEqProofs [go_sem]
  refine callE_of (chSame_calls ho8 (hM5.next b58)) ?_
  rintro v w9 ⟨rfl, b9⟩
  have bel9 := bel8.trans (b9.mono bel8.size)
  have b59 := b58.trans (b9.mono b58.size)
  have hP9 := hP5.next b59
  have hall := poolAll_calls w9 hP9.pool (by rw [hC.soft.small.len]; omega) (dat_ok m)
  rw [hC.soft.small.len, hC.count (by omega)] at hall
  simp -implicitDefEqProofs [go_sem]
  refine callE_of hall ?_
  rintro v w10 ⟨a10, c10, rfl, -, b10⟩
  have bel10 := bel9.trans (b10.mono bel9.size)
  have hheld := poolHeld_calls w10 (hP9.next b10).pool (by rw [hC.soft.small.len]; omega)
  rw [hC.soft.held, many_zero _ m] at hheld
  rw [hMn]
  simp -implicitDefEqProofs [go_sem]
  refine callE_of hheld ?_
  rintro v w11 ⟨rfl, b11⟩
  have bel11 := bel10.trans (b11.mono bel10.size)
  have hou2 := ours_calls aj S.M cj w11 (hj7.next (b8.trans ((b9.trans ((b10.trans (b11.mono b10.size)).mono b9.size)).mono b8.size))) (by omega)
  simp -implicitDefEqProofs [go_sem]
  rw [← hMn]
  refine callE_of hou2 ?_
  rintro v w12 ⟨ao2, co2, rfl, ho12, b12, -⟩
  have bel12 := bel11.trans (b12.mono bel11.size)
  simp -implicitDefEqProofs [go_sem]
  refine callE_of (chSame_calls ho12 (hM5.next (b59.trans ((b10.trans ((b11.trans (b12.mono b11.size)).mono b10.size)).mono b59.size)))) ?_
  rintro v w13 ⟨rfl, b13⟩
  have bel13 := bel12.trans (b13.mono bel12.size)
  simp -implicitDefEqProofs [go_sem]
  refine body_tmp 2 rfl ?_
  simp -implicitDefEqProofs [go_sem]
  exact bel13
end
end Go.Proofs.YtejpophjiinijaaDoor
