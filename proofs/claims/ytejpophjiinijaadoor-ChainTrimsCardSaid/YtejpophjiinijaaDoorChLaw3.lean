/- ChainTrims: its walk. -/
import Derived.Test.YtejpophjiinijaaDoorChLaw2
namespace Go.Proofs.YtejpophjiinijaaDoor
set_option linter.unusedVariables false
set_option linter.unusedSimpArgs false
set_option maxRecDepth 100000
open Go Go.RowKit

theorem see_core (at_ : BitVec 64) : ∀ (l1 l2 : List LinkV), l1.length = l2.length → (∀ i (h1 : i < l1.length) (h2 : i < l2.length), l1[i].text = l2[i].text ∧ l1[i].stamp = l2[i].stamp ∧ l1[i].gone = l2[i].gone) → seeP l1 at_ = seeP l2 at_
  | [], [], _, _ => rfl
  | [], _ :: _, h, _ => by cases h
  | _ :: _, [], h, _ => by cases h
  | a :: l1, b :: l2, h, hc => by
    obtain ⟨e1, e2, e3⟩ := hc 0 (by simp) (by simp)
    have e1 : a.text = b.text := e1
    have e2 : a.stamp = b.stamp := e2
    have e3 : a.gone = b.gone := e3
    rw [see_more, see_more, see_core at_ l1 l2 (by simpa using h) (fun i h1 h2 => hc (i + 1) (by simpa using h1) (by simpa using h2)), e1, e2, e3]
/-- What is needed by nobody below a stamp is seen by nobody there. -/
theorem see_take {lo at_ : BitVec 64} (h : lo.toNat ≤ at_.toNat) : ∀ l : List LinkV, seeP (l.take (needP lo l)) at_ = seeP l at_
  | [] => rfl
  | k :: l => by
    unfold needP
    by_cases h1 : lo.toNat < k.stamp.toNat
    · rw [if_pos h1, List.take_succ_cons, see_more, see_more, see_take h l]
    · rw [if_neg h1]
      have h2 : ¬ at_.toNat < k.stamp.toNat := by omega
      cases hg : k.gone
      · rw [if_neg (by decide), List.take_succ_cons, see_more, see_more, if_neg h2, if_neg h2]
      · rw [if_pos rfl, List.take_zero, see_more, if_neg h2, if_pos hg]; rfl
section
variable {m n : Nat}
/-- A chain that is trimmed, on a device that is up. -/
theorem trim_any {S : BS} (h : ChI m n S) (hm : m = 12) (hn : n < 48) (hu : S.V.D.Up) {q : Nat} (hq1 : 1 ≤ q) (hqn : q ≤ n) : ∃ L : List LinkV, (trimV (shN m) S.V S.M (q : Int)).2 = 0 ∧ Soft m (trimV (shN m) S.V S.M (q : Int)).1 ∧ (trimV (shN m) S.V S.M (q : Int)).1.D.Up ∧
    Seg (fetch (shN m) (trimV (shN m) S.V S.M (q : Int)).1.T (zL m) (trimV (shN m) S.V S.M (q : Int)).1.D) S.first L 0#64 ∧ FallL L ∧ L.length = q ∧ (∀ i (h1 : i < L.length) (h2 : i < S.M.length), L[i].off = S.M[i].off ∧ L[i].text = S.M[i].text ∧ L[i].stamp = S.M[i].stamp ∧ L[i].gone = S.M[i].gone) ∧
    (allK (shN m) (trimV (shN m) S.V S.M (q : Int)).1.T m).length = q := by
  have hl := h.len
  by_cases e : q = n
  · have hV : trimV (shN m) S.V S.M (q : Int) = (S.V, 0) := by
      unfold trimV
      rw [if_neg (by omega), if_pos (by omega)]
    rw [hV]
    exact ⟨S.M, rfl, h.soft, hu, h.listed hm hn hu.down, h.fall, by omega, fun _ _ _ => ⟨rfl, rfl, rfl, rfl⟩, by rw [e]; exact h.count (by omega)⟩
  · obtain ⟨u1, u2⟩ := trim_up h hm hn hu hq1 (by omega)
    rcases trim_soft h hm hn hq1 (by omega) with ⟨a1, a2, a3, a4⟩ | ⟨a1, _⟩
    · refine ⟨cutL S.M q, u1, a2, u2, lists hm a2.small a2.ds.lines u2.down (cutL_lnk h.lnk hq1) a4, cutL_fall h.fall, by rw [cutL_len]; omega, fun i h1 h2 => ?_, ?_⟩
      · exact cutL_same h1 h2
      · have := all_count a2.small (a := n - q) (b := n) (by omega) (by omega) a3
        rw [this]; omega
    · rw [u1] at a1; cases a1
end
section
set_option linter.unusedSimpArgs false
set_option maxHeartbeats 16000000
theorem chainTrims_walk (a0 : Option Addr) (l : List LinkV) (cap : Nat) (x1 : BitVec 8) (a2 : Int) (w0 : World) (hF : Fours w0) (hT : Tabs w0) (hin : RcsIn w0 a0 l cap) (hk : I64 a2) :
    Ret Tryd.prog 4 #[.slice a0 l.length cap, .int .u8 (uv x1), .int .i64 a2] w0 fun v w' => v = .bool true ∧ Below w0.heap.size w0 w' := by
  have bel0 := Below.refl w0.heap.size w0
  obtain ⟨m, hm⟩ : ∃ m : Nat, m = 12 := ⟨_, rfl⟩
  refine ret_of (args := [_, _, _]) _ Tryd.func4 rfl Tryd.ntmps4 (by simp) ?_
  simp -implicitDefEqProofs [go_sem]
  refine callE_of (chAlive_calls w0 hF hT) ?_
  rintro v w1 ⟨rfl, bel1⟩
  simp -implicitDefEqProofs [go_sem]
  refine callE_of (few_calls (hin.next bel1)) ?_
  rintro v w2 ⟨rfl, b2⟩
  have bel2 := bel1.trans (b2.mono bel1.size)
  cases hfew : fewB l
  · simp -implicitDefEqProofs [go_sem]
    refine body_tmp 6 rfl ?_
    simp -implicitDefEqProofs [go_sem]
    exact bel2
  have hl40 : l.length ≤ 40 := by unfold fewB at hfew; simp at hfew; exact hfew.2
  simp -implicitDefEqProofs [go_sem]
  refine callE_of (built_calls hm a0 l cap w2 (hF.next bel2) (hT.next bel2) (hin.next bel2) hl40) ?_
  have hB := blt hm l hl40 l.length (Nat.le_refl _)
  generalize bldS m l l.length = S at *
  obtain ⟨⟨n, hn, hC⟩, hu, hst, -⟩ := hB
  have hMn := hC.len
  rintro v w3 ⟨p, b, tb, tc, hb, hc, F, am, cm, rfl, hP, hge, hinM, hsep, b3⟩
  have bel3 := bel2.trans (b3.mono bel2.size)
  simp -implicitDefEqProofs [go_sem]
  refine callE_of (listOk_calls hm hP hC.soft hu.down (hC.listed hm (by omega) hu.down) hC.fall) ?_
  rintro v w4 ⟨ak, ck, rfl, hk4, hnk, b4⟩
  have bel4 := bel3.trans (b4.mono bel3.size)
  have hP4 := hP.next b4
  have hM4 := hinM.next b4
  have hge0 : ∀ k, PdK b tb hb F k → w0.heap.size ≤ k := fun k hk => by have := hge k hk; have := bel2.size; omega
  obtain ⟨lo, hlo⟩ : ∃ lo : BitVec 64, lo = (x1 % 90#8).setWidth 64 := ⟨_, rfl⟩
  have hlo90 : lo.toNat < 90 := by rw [hlo]; simp; omega
  by_cases hz : a2 = 0
  · have hz' : (a2 == 0) = true := by rw [beq_iff_eq]; exact hz
    simp -implicitDefEqProofs [go_sem, hz', ← hlo]
    refine callE_of (chNeed_calls lo hk4) ?_
    rintro v w5 ⟨rfl, b45⟩
    rw [need_eq lo hC.fall]
    have hnle := need_le lo S.M
    obtain ⟨K, hK⟩ : ∃ K : Int, K = (needP lo S.M : Int) := ⟨_, rfl⟩
    rw [← hK]
    have bel5 := bel4.trans (b45.mono bel4.size)
    have hP5 := hP4.next b45
    have hk5 := hk4.next b45
    have hM5 := hM4.next b45
    have hKI : I64 K := by unfold I64; omega
    have hKz : a2 = 0 → ∀ at_ : BitVec 64, lo.toNat ≤ at_.toNat → seeP (S.M.take K.toNat) at_ = seeP S.M at_ := fun _ at_ hat => by
      rw [hK, Int.toNat_natCast]; exact see_take hat S.M
    simp -implicitDefEqProofs [go_sem]
    have hsepK : Sep w5 (PdK b tb hb F) ak := fun y hy => by
      obtain ⟨h1, h2⟩ := hnk y hy
      refine ⟨by have := b45.size; omega, fun hf => ?_⟩
      have := hP.lt _ hf
      omega
    refine callE_of (trim_calls S.V K w5 hP5 (tab128 m) (by rw [hC.soft.small.len]; omega) (dat_ok m) (by omega) hk5 hsepK
      (fun k hk => by
        obtain ⟨j, hj, e, _⟩ := hC.stands (by omega) k hk
        rw [e]; omega) hKI (by omega)) ?_
    rintro v w6 ⟨rfl, F6, hP6, t6⟩
    have bel6 := bel5.trans (t6.mod.below bel5.size hge0)
    have hk6 := hk5.mod t6.mod (fun y hy => (hsepK y hy).2)
    have hM6 := hM5.mod t6.mod (fun y hy => (hsep y hy).2.2)
    by_cases hbad : K < 1 ∨ (S.M.length : Int) < K
    · have hV : trimV (shN m) S.V S.M K = (S.V, 2) := by unfold trimV; rw [if_pos hbad]
      rw [hV] at hP6 ⊢
      have hall := poolAll_calls w6 hP6.pool (by rw [hC.soft.small.len]; omega) (dat_ok m)
      rw [hC.soft.small.len, hC.count (by omega), ← hMn] at hall
      by_cases hb1 : K < 1
      · simp -implicitDefEqProofs [go_sem, hb1]
        refine callE_of hall ?_
        rintro v w7 ⟨a7, c7, rfl, -, b7⟩
        have bel7 := bel6.trans (b7.mono bel6.size)
        simp -implicitDefEqProofs [go_sem]
        refine body_tmp 6 rfl ?_
        simp -implicitDefEqProofs [go_sem]
        exact bel7
      · have hb2 : (S.M.length : Int) < K := by omega
        simp -implicitDefEqProofs [go_sem, hb1, hb2]
        refine callE_of hall ?_
        rintro v w7 ⟨a7, c7, rfl, -, b7⟩
        have bel7 := bel6.trans (b7.mono bel6.size)
        simp -implicitDefEqProofs [go_sem]
        refine body_tmp 6 rfl ?_
        simp -implicitDefEqProofs [go_sem]
        exact bel7
    · have hb1 : ¬ K < 1 := fun h => hbad (.inl h)
      have hb2 : ¬ (S.M.length : Int) < K := fun h => hbad (.inr h)
      obtain ⟨q, hq⟩ : ∃ q : Nat, K = (q : Int) := ⟨K.toNat, by omega⟩
      have hq1 : 1 ≤ q := by omega
      have hqn : q ≤ n := by omega
      obtain ⟨L, e1, s1, u1, g1, f1, l1, c1, k1⟩ := trim_any hC hm (by omega) hu hq1 hqn
      rw [← hq] at e1 s1 u1 g1 k1
      obtain ⟨R, hR⟩ : ∃ R, R = trimV (shN m) S.V S.M K := ⟨_, rfl⟩
      rw [← hR] at e1 s1 u1 g1 k1 hP6 ⊢
      have hzs : a2 = 0 → ∀ at_ : BitVec 64, lo.toNat ≤ at_.toNat → seeP L at_ = seeP S.M at_ := fun h0 at_ hat => by
        have h2 := hKz h0 at_ hat
        rw [hq, Int.toNat_natCast] at h2
        rw [← h2]
        refine see_core at_ _ _ (by rw [List.length_take]; omega) (fun i i1 i2 => ?_)
        rw [List.getElem_take]
        have := c1 i i1 (by omega)
        exact ⟨this.2.1, this.2.2.1, this.2.2.2⟩
      rw [e1]
      simp -implicitDefEqProofs [go_sem, hb1, hb2]
      refine callE_of (listOk_calls hm hP6 s1 u1.down g1 f1) ?_
      rintro v w7 ⟨aj, cj, rfl, hj7, -, b7⟩
      have bel7 := bel6.trans (b7.mono bel6.size)
      have hall := poolAll_calls w7 (hP6.next b7).pool (by rw [s1.small.len]; omega) (dat_ok m)
      rw [s1.small.len, k1] at hall
      have hKq : ((L.length : Int) != K) = false := by rw [bne_eq_false_iff_eq]; omega
      have hKq2 : ((q : Int) != K) = false := by rw [bne_eq_false_iff_eq]; omega
      simp -implicitDefEqProofs [go_sem, hKq]
      refine callE_of hall ?_
      rintro v w8 ⟨a8, c8, rfl, -, b8⟩
      have bel8 := bel7.trans (b8.mono bel7.size)
      have hj8 := hj7.next b8
      have hk8 := (hk6.next b7).next b8
      simp -implicitDefEqProofs [go_sem, hKq2]
      refine wpE_loop (fun e' w' => ∃ k : Nat, k ≤ L.length ∧ e' 1 = .int .u8 (uv x1) ∧ e' 2 = .int .i64 a2 ∧ e' 11 = .slice ak S.M.length ck ∧ e' 15 = .slice aj L.length cj ∧ e' 104 = .int .i64 L.length ∧ e' 105 = .int .i64 k ∧ Below w8.heap.size w8 w') (fun e' _ => L.length - (intOf (e' 105)).toNat) ?_ ?_
      · refine ⟨0, by omega, ?_⟩
        simp -implicitDefEqProofs [go_sem]
        exact Below.refl _ _
      · rintro e' w9 ⟨k, hk, q1, q2, q11, q15, q104, q105, b9⟩
        by_cases hlt : k < L.length
        · have hlt' : (k : Int) < L.length := by omega
          have hlm : k < S.M.length := by omega
          have hlm' : (k : Int) < S.M.length := by omega
          have hwk := IntWalk.i64_in ((k : Int) + 1) (by omega)
          have b10 := b9.drew
          obtain ⟨bj, oj, hej, x0, x1', -, -, x4⟩ := (hj8.next b10).cells hlt
          obtain ⟨bk, ok, hek, y0, y1', -, -, y4⟩ := (hk8.next b10).cells hlm
          subst hej
          subst hek
          obtain ⟨z1, z2, z3, -⟩ := c1 k hlt hlm
          rw [z1] at x0
          rw [z3] at x1'
          rw [z2] at x4
          simp -implicitDefEqProofs [go_sem, q1, q2, q11, q15, q104, q105, hlt, hlt']
          refine drawE_still mixed (by decide +kernel) ?_
          generalize World.drew w9 = w10 at *
          simp -implicitDefEqProofs [go_sem, q1, q2, q11, q15, q104, q105, hlt, hlt', hlm, hlm', x0, x1', x4, y0, y1', y4]
          unfold endE
          simp -implicitDefEqProofs [go_sem, q1, q2, q11, q15, q104, q105, hwk]
          refine goE_round ⟨k + 1, by omega, ?_⟩ ?_
          · simp -implicitDefEqProofs [go_sem, q1, q2, q11, q15, q104]; exact b10
          · simp -implicitDefEqProofs [go_sem, intOf, q105, hwk]; omega
        · have hn' : ¬ (k : Int) < L.length := by omega
          have bel9 := bel8.trans (b9.mono bel8.size)
          simp -implicitDefEqProofs [go_sem, q1, q2, q11, q15, q104, q105, hlt, hn', ← hlo]
          refine wpE_loop (fun e2 w' => ∃ at_ : BitVec 64, lo.toNat ≤ at_.toNat ∧ at_.toNat ≤ 90 ∧ e2 2 = .int .i64 a2 ∧ e2 11 = .slice ak S.M.length ck ∧ e2 15 = .slice aj L.length cj ∧ e2 18 = .int .u64 (uv at_) ∧ Below w9.heap.size w9 w') (fun e2 _ => 90 - (intOf (e2 18)).toNat) ?_ ?_
          · refine ⟨lo, Nat.le_refl _, by omega, ?_⟩
            simp -implicitDefEqProofs [go_sem, q2, q11, q15]
            exact Below.refl _ _
          · rintro e2 w10 ⟨at_, hat, hat2, r2, r11, r15, r18, b10⟩
            have bel10 := bel9.trans (b10.mono bel9.size)
            have hz0 : a2 = 0 := hz
            by_cases h90 : at_ < 90#64
            · have h90n : at_.toNat < 90 := by rw [BitVec.lt_def] at h90; exact h90
              simp -implicitDefEqProofs [go_sem, r2, r11, r15, r18, hz', h90]
              refine callE_of (chSee_calls at_ ((hj8.next b9).next b10)) ?_
              rintro v w11 ⟨rfl, b11⟩
              have b11' := b10.trans (b11.mono b10.size)
              simp -implicitDefEqProofs [go_sem, r2, r11, r15, r18]
              refine callE_of (chSee_calls at_ ((hk8.next b9).next b11')) ?_
              rintro v w12 ⟨rfl, b12⟩
              have b12' := b11'.trans (b12.mono b11'.size)
              rw [hzs hz0 at_ hat]
              have hinc : (at_ + 1#64).toNat = at_.toNat + 1 := by rw [BitVec.toNat_add]; simp; omega
              simp -implicitDefEqProofs [go_sem, r2, r11, r15, r18]
              refine goE_round ⟨at_ + 1#64, by omega, by omega, ?_⟩ ?_
              · simp -implicitDefEqProofs [go_sem, r2, r11, r15]; exact b12'
              · simp -implicitDefEqProofs [go_sem, intOf, r18, uv, hinc]; omega
            · simp -implicitDefEqProofs [go_sem, r2, r11, r15, r18, hz', h90]
              refine body_tmp 6 rfl ?_
              simp -implicitDefEqProofs [go_sem]
              exact bel10
  · have hz' : (a2 == 0) = false := by rw [beq_eq_false_iff_ne]; exact hz
    have b45 := Below.refl w4.heap.size w4
    have bel5 := bel4
    have hP5 := hP4
    have hk5 := hk4
    have hM5 := hM4
    have hKI : I64 a2 := hk
    have hKz : a2 = 0 → ∀ at_ : BitVec 64, lo.toNat ≤ at_.toNat → seeP (S.M.take a2.toNat) at_ = seeP S.M at_ := fun h => absurd h hz
    simp -implicitDefEqProofs [go_sem, hz']
    have hsepK : Sep w4 (PdK b tb hb F) ak := fun y hy => by
      obtain ⟨h1, h2⟩ := hnk y hy
      refine ⟨by have := b45.size; omega, fun hf => ?_⟩
      have := hP.lt _ hf
      omega
    refine callE_of (trim_calls S.V a2 w4 hP5 (tab128 m) (by rw [hC.soft.small.len]; omega) (dat_ok m) (by omega) hk5 hsepK
      (fun k hk => by
        obtain ⟨j, hj, e, _⟩ := hC.stands (by omega) k hk
        rw [e]; omega) hKI (by omega)) ?_
    rintro v w6 ⟨rfl, F6, hP6, t6⟩
    have bel6 := bel5.trans (t6.mod.below bel5.size hge0)
    have hk6 := hk5.mod t6.mod (fun y hy => (hsepK y hy).2)
    have hM6 := hM5.mod t6.mod (fun y hy => (hsep y hy).2.2)
    by_cases hbad : a2 < 1 ∨ (S.M.length : Int) < a2
    · have hV : trimV (shN m) S.V S.M a2 = (S.V, 2) := by unfold trimV; rw [if_pos hbad]
      rw [hV] at hP6 ⊢
      have hall := poolAll_calls w6 hP6.pool (by rw [hC.soft.small.len]; omega) (dat_ok m)
      rw [hC.soft.small.len, hC.count (by omega), ← hMn] at hall
      by_cases hb1 : a2 < 1
      · simp -implicitDefEqProofs [go_sem, hb1]
        refine callE_of hall ?_
        rintro v w7 ⟨a7, c7, rfl, -, b7⟩
        have bel7 := bel6.trans (b7.mono bel6.size)
        simp -implicitDefEqProofs [go_sem]
        refine body_tmp 6 rfl ?_
        simp -implicitDefEqProofs [go_sem]
        exact bel7
      · have hb2 : (S.M.length : Int) < a2 := by omega
        simp -implicitDefEqProofs [go_sem, hb1, hb2]
        refine callE_of hall ?_
        rintro v w7 ⟨a7, c7, rfl, -, b7⟩
        have bel7 := bel6.trans (b7.mono bel6.size)
        simp -implicitDefEqProofs [go_sem]
        refine body_tmp 6 rfl ?_
        simp -implicitDefEqProofs [go_sem]
        exact bel7
    · have hb1 : ¬ a2 < 1 := fun h => hbad (.inl h)
      have hb2 : ¬ (S.M.length : Int) < a2 := fun h => hbad (.inr h)
      obtain ⟨q, hq⟩ : ∃ q : Nat, a2 = (q : Int) := ⟨a2.toNat, by omega⟩
      have hq1 : 1 ≤ q := by omega
      have hqn : q ≤ n := by omega
      obtain ⟨L, e1, s1, u1, g1, f1, l1, c1, k1⟩ := trim_any hC hm (by omega) hu hq1 hqn
      rw [← hq] at e1 s1 u1 g1 k1
      obtain ⟨R, hR⟩ : ∃ R, R = trimV (shN m) S.V S.M a2 := ⟨_, rfl⟩
      rw [← hR] at e1 s1 u1 g1 k1 hP6 ⊢
      have hzs : a2 = 0 → ∀ at_ : BitVec 64, lo.toNat ≤ at_.toNat → seeP L at_ = seeP S.M at_ := fun h0 at_ hat => by
        have h2 := hKz h0 at_ hat
        rw [hq, Int.toNat_natCast] at h2
        rw [← h2]
        refine see_core at_ _ _ (by rw [List.length_take]; omega) (fun i i1 i2 => ?_)
        rw [List.getElem_take]
        have := c1 i i1 (by omega)
        exact ⟨this.2.1, this.2.2.1, this.2.2.2⟩
      rw [e1]
      simp -implicitDefEqProofs [go_sem, hb1, hb2]
      refine callE_of (listOk_calls hm hP6 s1 u1.down g1 f1) ?_
      rintro v w7 ⟨aj, cj, rfl, hj7, -, b7⟩
      have bel7 := bel6.trans (b7.mono bel6.size)
      have hall := poolAll_calls w7 (hP6.next b7).pool (by rw [s1.small.len]; omega) (dat_ok m)
      rw [s1.small.len, k1] at hall
      have hKq : ((L.length : Int) != a2) = false := by rw [bne_eq_false_iff_eq]; omega
      have hKq2 : ((q : Int) != a2) = false := by rw [bne_eq_false_iff_eq]; omega
      simp -implicitDefEqProofs [go_sem, hKq]
      refine callE_of hall ?_
      rintro v w8 ⟨a8, c8, rfl, -, b8⟩
      have bel8 := bel7.trans (b8.mono bel7.size)
      have hj8 := hj7.next b8
      have hk8 := (hk6.next b7).next b8
      simp -implicitDefEqProofs [go_sem, hKq2]
      refine wpE_loop (fun e' w' => ∃ k : Nat, k ≤ L.length ∧ e' 1 = .int .u8 (uv x1) ∧ e' 2 = .int .i64 a2 ∧ e' 11 = .slice ak S.M.length ck ∧ e' 15 = .slice aj L.length cj ∧ e' 104 = .int .i64 L.length ∧ e' 105 = .int .i64 k ∧ Below w8.heap.size w8 w') (fun e' _ => L.length - (intOf (e' 105)).toNat) ?_ ?_
      · refine ⟨0, by omega, ?_⟩
        simp -implicitDefEqProofs [go_sem]
        exact Below.refl _ _
      · rintro e' w9 ⟨k, hk, q1, q2, q11, q15, q104, q105, b9⟩
        by_cases hlt : k < L.length
        · have hlt' : (k : Int) < L.length := by omega
          have hlm : k < S.M.length := by omega
          have hlm' : (k : Int) < S.M.length := by omega
          have hwk := IntWalk.i64_in ((k : Int) + 1) (by omega)
          have b10 := b9.drew
          obtain ⟨bj, oj, hej, x0, x1', -, -, x4⟩ := (hj8.next b10).cells hlt
          obtain ⟨bk, ok, hek, y0, y1', -, -, y4⟩ := (hk8.next b10).cells hlm
          subst hej
          subst hek
          obtain ⟨z1, z2, z3, -⟩ := c1 k hlt hlm
          rw [z1] at x0
          rw [z3] at x1'
          rw [z2] at x4
          simp -implicitDefEqProofs [go_sem, q1, q2, q11, q15, q104, q105, hlt, hlt']
          refine drawE_still mixed (by decide +kernel) ?_
          generalize World.drew w9 = w10 at *
          simp -implicitDefEqProofs [go_sem, q1, q2, q11, q15, q104, q105, hlt, hlt', hlm, hlm', x0, x1', x4, y0, y1', y4]
          unfold endE
          simp -implicitDefEqProofs [go_sem, q1, q2, q11, q15, q104, q105, hwk]
          refine goE_round ⟨k + 1, by omega, ?_⟩ ?_
          · simp -implicitDefEqProofs [go_sem, q1, q2, q11, q15, q104]; exact b10
          · simp -implicitDefEqProofs [go_sem, intOf, q105, hwk]; omega
        · have hn' : ¬ (k : Int) < L.length := by omega
          have bel9 := bel8.trans (b9.mono bel8.size)
          simp -implicitDefEqProofs [go_sem, q1, q2, q11, q15, q104, q105, hlt, hn', ← hlo]
          refine wpE_loop (fun e2 w' => ∃ at_ : BitVec 64, lo.toNat ≤ at_.toNat ∧ at_.toNat ≤ 90 ∧ e2 2 = .int .i64 a2 ∧ e2 11 = .slice ak S.M.length ck ∧ e2 15 = .slice aj L.length cj ∧ e2 18 = .int .u64 (uv at_) ∧ Below w9.heap.size w9 w') (fun e2 _ => 90 - (intOf (e2 18)).toNat) ?_ ?_
          · refine ⟨lo, Nat.le_refl _, by omega, ?_⟩
            simp -implicitDefEqProofs [go_sem, q2, q11, q15]
            exact Below.refl _ _
          · rintro e2 w10 ⟨at_, hat, hat2, r2, r11, r15, r18, b10⟩
            have bel10 := bel9.trans (b10.mono bel9.size)
            simp -implicitDefEqProofs [go_sem, r2, r11, r15, r18, hz']
            refine body_tmp 6 rfl ?_
            simp -implicitDefEqProofs [go_sem]
            exact bel10
end
end Go.Proofs.YtejpophjiinijaaDoor
