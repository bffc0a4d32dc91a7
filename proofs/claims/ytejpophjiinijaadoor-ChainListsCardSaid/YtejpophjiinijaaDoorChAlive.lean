/- List of what stands, as a call; alive of the laws of chain. -/
import Derived.Test.YtejpophjiinijaaDoorChBuilt
import Derived.Test.YtejpophjiinijaaDoorChP
namespace Go.Proofs.YtejpophjiinijaaDoor
set_option linter.unusedVariables false
set_option linter.unusedSimpArgs false
set_option maxRecDepth 100000
open Go Go.RowKit

section
variable {m n : Nat} {w0 : World} {b p tb tc hb hc : Nat} {F : Nat → Prop}
theorem tkn_count {T : List (BitVec 64)} (hm : m = 12) : ((List.range (16 * m)).filter (tkn T)).length ≤ 192 := by
  have := List.length_filter_le (tkn T) (List.range (16 * m))
  rw [List.length_range] at this; omega
/-- List where we know what it is. -/
theorem listOk_calls (hm : m = 12) {V : PV} (hP : PD w0 b p (shN m) V.T V.H tb tc hb hc F V.D) (hS : Soft m V) (hd : V.D.down = false) {first : BitVec 64} {L : List LinkV} (hL : Seg (fetch (shN m) V.T (zL m) V.D) first L 0#64) (hf : FallL L) :
    Ret Tryd.prog 19 #[.pointer (some ⟨p, 0, none⟩), .pointer (some ⟨b, 0, none⟩), .int .u64 (uv first)] w0 fun v w' => ∃ a c, v = .tuple #[.slice a L.length c, .int .i64 0] ∧ LksIn w' a L c ∧ (∀ y, a = some y → w0.heap.size ≤ y.block ∧ y.block < w'.heap.size) ∧ Below w0.heap.size w0 w' := by
  rw [hS.held] at hP
  have hc := tkn_count (T := V.T) hm
  refine (chList_calls first w0 hP (by rw [hS.small.len]; omega) (dat_ok m) (fun off h => get_class hm hS.small hS.ds.lines hd off h) 192 (fun acc y h1 h2 => Nat.le_trans (list_len hm hS.small h1 h2) hc) (by omega)).mono ?_
  rintro v w' ⟨hp, hb'⟩
  rcases hp with ⟨l, a, c, h1, h2, rfl, h3, h4⟩ | ⟨h1, _⟩
  · obtain rfl := Seg.uniq h1 hL
    exact ⟨a, c, rfl, h3, h4, hb'⟩
  · exact absurd hf (h1 L hL)
theorem ChI.listed {S : BS} (h : ChI m n S) (hm : m = 12) (hn : n < 48) (hd : S.V.D.down = false) : Seg (fetch (shN m) S.V.T (zL m) S.V.D) S.first S.M 0#64 :=
  lists hm h.soft.small h.soft.ds.lines hd h.lnk (h.stands (by omega))
end
/-! ### alive -/
def lA : List LinkV := [⟨0, 0#64, 0#64, false, ⟨#[97]⟩⟩, ⟨0, 0#64, 0#64, false, ⟨#[98]⟩⟩, ⟨0, 0#64, 0#64, true, ⟨#[]⟩⟩]
theorem step_right {m k : Nat} (hm : m = 12) {S : BS} (h : Blt m k S) (hk : k < 48) (x : LinkV) (hr : (mkR k S.first x).right = true) : stepB m k S x = ⟨(addV (shN m) S.V (mkR k S.first x)).1, (addV (shN m) S.V (mkR k S.first x)).2.1, { mkR k S.first x with off := (addV (shN m) S.V (mkR k S.first x)).2.1.toInt } :: S.M⟩ := by
  have h1 := blt_err hm h hk x
  rw [hr] at h1
  rcases h1 with h1 | h1
  · unfold stepB; rw [if_pos h1]
  · cases h1
theorem aliveS {m : Nat} (hm : m = 12) : ChI m 3 (bldS m lA 3) ∧ (bldS m lA 3).V.D.Up ∧ (bldS m lA 3).V.D.steps ≤ 100100 ∧ (bldS m lA 3).M.length = 3 ∧
    seeP (bldS m lA 3).M 4#64 = (⟨#[98]⟩, true) ∧ seeP (bldS m lA 3).M 5#64 = (⟨#[]⟩, false) ∧ (needA 4#64 (bldS m lA 3).M).1 = 2 ∧ (needA 9#64 (bldS m lA 3).M).1 = 0 := by
  have hB := blt hm lA (by decide) 3 (by decide)
  have h0 := blt hm lA (by decide) 0 (by decide)
  have h1 := blt hm lA (by decide) 1 (by decide)
  have h2 := blt hm lA (by decide) 2 (by decide)
  have r0 : ∀ f, (mkR 0 f (lA.getD 0 default)).right = true := fun f => by rw [mkR_right (by decide)]; rfl
  have r1 : ∀ f, (mkR 1 f (lA.getD 1 default)).right = true := fun f => by rw [mkR_right (by decide)]; rfl
  have r2 : ∀ f, (mkR 2 f (lA.getD 2 default)).right = true := fun f => by rw [mkR_right (by decide)]; rfl
  have e1 : bldS m lA 1 = _ := step_right hm h0 (by decide) (lA.getD 0 default) (r0 _)
  have e2 : bldS m lA 2 = _ := step_right hm h1 (by decide) (lA.getD 1 default) (r1 _)
  have e3 : bldS m lA 3 = _ := step_right hm h2 (by decide) (lA.getD 2 default) (r2 _)
  have hM : ∃ o1 o2 o3 n1 n2 n3, (bldS m lA 3).M = [⟨o3, 5#64, n3, true, ⟨#[]⟩⟩, ⟨o2, 3#64, n2, false, ⟨#[98]⟩⟩, ⟨o1, 1#64, n1, false, ⟨#[97]⟩⟩] := by
    rw [e3]
    dsimp only
    rw [e2]
    dsimp only
    rw [e1]
    dsimp only
    exact ⟨_, _, _, _, _, _, rfl⟩
  obtain ⟨o1, o2, o3, n1, n2, n3, hM⟩ := hM
  obtain ⟨⟨n, hn, hC⟩, hu, hs, -⟩ := hB
  have hl : (bldS m lA 3).M.length = 3 := by rw [hM]; rfl
  obtain rfl : n = 3 := by have := hC.len; omega
  refine ⟨hC, hu, by omega, hl, ?_, ?_, ?_, ?_⟩
  · rw [hM]; rfl
  · rw [hM]; rfl
  · rw [hM]; rfl
  · rw [hM]; rfl
theorem rcs_lA (w : World) (e : TypeId) : RcsIn (w.alloc (.cells #[.int .u64 0, .int .u64 0, .bool false, .string ⟨#[97]⟩, .int .u64 0, .int .u64 0, .bool false, .string ⟨#[98]⟩, .int .u64 0, .int .u64 0, .bool true, .string ⟨#[]⟩] e)) (some ⟨w.heap.size, 0, none⟩) lA 3 := by
  refine ⟨.inr ⟨_, 0, rfl, fun i hi j hj => ?_⟩, by decide, by decide, fun h => by cases h⟩
  have hi : i < 3 := hi
  have hj : j < 4 := hj
  rw [Nat.zero_add, (Blk.new w _ e).cell]
  have h3 : i = 0 ∨ i = 1 ∨ i = 2 := by omega
  have h4 : j = 0 ∨ j = 1 ∨ j = 2 ∨ j = 3 := by omega
  rcases h3 with rfl | rfl | rfl <;> rcases h4 with rfl | rfl | rfl | rfl <;> rfl
section
set_option linter.unusedSimpArgs false
set_option maxHeartbeats 8000000
theorem chAlive_calls (w0 : World) (hF : Fours w0) (hT : Tabs w0) : Ret Tryd.prog 10 #[] w0 fun v w' => v = .bool true ∧ Below w0.heap.size w0 w' := by
  have bel0 := Below.refl w0.heap.size w0
  obtain ⟨m, hm⟩ : ∃ m : Nat, m = 12 := ⟨_, rfl⟩
  obtain ⟨hC, hu, hst, hl3, hs4, hs5, hn4, hn9⟩ := aliveS hm
  have hblt := fun w a cap h hF hT => built_calls hm a lA cap w hF hT h (by decide)
  rw [show lA.length = 3 from rfl] at hblt
  generalize bldS m lA 3 = S at *
  refine ret_of (args := []) _ Tryd.func10 rfl Tryd.ntmps10 (by simp) ?_
  have hrc := rcs_lA w0 26
  have hlS := hC.listed hm (by omega) hu.down
  have hfS := hC.fall
  simp -implicitDefEqProofs [go_sem]
  generalize hw1 : World.alloc w0 _ = w1 at *
  obtain ⟨hB1, b1, sz1⟩ := new_facts hw1
  have bel1 := bel0.trans (b1.mono bel0.size)
  refine callE_of (hblt w1 _ _ hrc (hF.next bel1) (hT.next bel1)) ?_
  rintro v w2 ⟨p, b, tb, tc, hb, hc, F, am, cm, rfl, hP, hge, hin, hsep, b2⟩
  have bel2 := bel1.trans (b2.mono bel1.size)
  rw [hl3]
  have h33 : (((3 : Nat) : Int) != 3) = false := by decide
  simp -implicitDefEqProofs [go_sem]
  refine callE_of (listOk_calls hm hP hC.soft hu.down hlS hfS) ?_
  rintro v w3 ⟨ak, ck, rfl, hk3, hnk, b3⟩
  have bel3 := bel2.trans (b3.mono bel2.size)
  rw [hl3]
  simp -implicitDefEqProofs [go_sem]
  have ho := ours_calls ak S.M ck w3 hk3 (by omega)
  rw [hl3] at ho
  refine callE_of ho ?_
  rintro v w4 ⟨ao, co, rfl, ho4, b4, -⟩
  have bel4 := bel3.trans (b4.mono bel3.size)
  simp -implicitDefEqProofs [go_sem]
  have hsm := chSame_calls (ho4) (hin.next (b3.trans (b4.mono b3.size)))
  rw [hl3] at hsm
  refine callE_of hsm ?_
  rintro v w5 ⟨rfl, b5⟩
  have bel5 := bel4.trans (b5.mono bel4.size)
  have b35 := b4.trans (b5.mono b4.size)
  simp -implicitDefEqProofs [go_sem]
  have hn1 := chNeed_calls 4#64 (hk3.next b35)
  rw [hl3, hn4] at hn1
  refine callE_of hn1 ?_
  rintro v w6 ⟨rfl, b6⟩
  have bel6 := bel5.trans (b6.mono bel5.size)
  have b36 := b35.trans (b6.mono b35.size)
  simp -implicitDefEqProofs [go_sem]
  have hn2 := chNeed_calls 9#64 (hk3.next b36)
  rw [hl3, hn9] at hn2
  refine callE_of hn2 ?_
  rintro v w7 ⟨rfl, b7⟩
  have bel7 := bel6.trans (b7.mono bel6.size)
  have b37 := b36.trans (b7.mono b36.size)
  simp -implicitDefEqProofs [go_sem]
  have he1 := chSee_calls 4#64 (hk3.next b37)
  rw [hl3, hs4] at he1
  refine callE_of he1 ?_
  rintro v w8 ⟨rfl, b8⟩
  have bel8 := bel7.trans (b8.mono bel7.size)
  have b38 := b37.trans (b8.mono b37.size)
  simp -implicitDefEqProofs [go_sem]
  have he2 := chSee_calls 5#64 (hk3.next b38)
  rw [hl3, hs5] at he2
  refine callE_of he2 ?_
  rintro v w9 ⟨rfl, b9⟩
  have bel9 := bel8.trans (b9.mono bel8.size)
  have b39 := b38.trans (b9.mono b38.size)
  have hsepK : Sep w9 (PdK b tb hb F) ak := fun y hy => by
    obtain ⟨h1, h2⟩ := hnk y hy
    refine ⟨by have := b39.size; omega, fun hf => ?_⟩
    have := hP.lt _ hf
    omega
  have htr := trim_calls S.V 1 w9 (hP.next (b3.trans (b39.mono b3.size))) (tab128 m) (by rw [hC.soft.small.len]; omega) (dat_ok m) (by omega) (hk3.next b39) hsepK
    (fun k hk => by
      obtain ⟨j, hj, e, _⟩ := hC.stands (by omega) k hk
      rw [e]; omega) (by unfold I64; omega) (by omega)
  obtain ⟨tu1, tu2⟩ := trim_up hC hm (by omega) hu (q := 1) (by omega) (by omega)
  have hts := trim_soft hC hm (by omega) (q := 1) (by omega) (by omega)
  have htst := trim_steps (shN m) S.V S.M ((1 : Nat) : Int)
  rw [hl3] at htr
  rw [show ((1 : Nat) : Int) = 1 from rfl] at tu1 tu2 hts htst
  generalize trimV (shN m) S.V S.M 1 = R at *
  simp -implicitDefEqProofs [go_sem]
  refine callE_of htr ?_
  rintro v w10 ⟨rfl, F10, hP10, t10⟩
  rw [tu1]
  rcases hts with ⟨-, hs10, hk10, hst10⟩ | ⟨e, _⟩
  · have hge9 : ∀ k, PdK b tb hb F k → w0.heap.size ≤ k := fun k hk => by have := hge k hk; have := bel1.size; omega
    have bel10 := bel9.trans (t10.mod.below bel9.size hge9)
    have hcl : (cutL S.M 1).length = 1 := by rw [cutL_len]; omega
    have hlk := listOk_calls hm hP10 hs10 tu2.down (lists hm hs10.small hs10.ds.lines tu2.down (cutL_lnk hC.lnk (q := 1) (by omega)) hst10) (cutL_fall hfS)
    rw [hcl] at hlk
    simp -implicitDefEqProofs [go_sem]
    refine callE_of hlk ?_
    rintro v w11 ⟨a11, c11, rfl, hk11, -, b11⟩
    have bel11 := bel10.trans (b11.mono bel10.size)
    simp -implicitDefEqProofs [go_sem]
    have hall := poolAll_calls w11 (hP10.next b11).pool (by rw [hs10.small.len]; omega) (dat_ok m)
    have hcnt := all_count hs10.small (a := 3 - 1) (b := 3) (by omega) (by omega) hk10
    rw [hs10.small.len, hcnt] at hall
    refine callE_of hall ?_
    rintro v w12 ⟨a12, c12, rfl, _, b12⟩
    have bel12 := bel11.trans (b12.mono bel11.size)
    simp -implicitDefEqProofs [go_sem]
    refine body_tmp 0 rfl ?_
    simp -implicitDefEqProofs [go_sem]
    exact bel12
  · rw [tu1] at e; cases e
end
end Go.Proofs.YtejpophjiinijaaDoor
