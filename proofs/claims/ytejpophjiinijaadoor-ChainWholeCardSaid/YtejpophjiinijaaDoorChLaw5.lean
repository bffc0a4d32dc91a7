/- ChainWhole: its walk. -/
import Derived.Test.YtejpophjiinijaaDoorChLaw2
namespace Go.Proofs.YtejpophjiinijaaDoor
set_option linter.unusedVariables false
set_option linter.unusedSimpArgs false
set_option maxRecDepth 100000
open Go Go.RowKit

section
variable {m n : Nat}
/-- A device that ended anywhere: what is left is the old chain, or one of so many. -/
def Left (m : Nat) (S : BS) (q : Nat) (E : NM.Dv) : Prop := ∀ ps, ∃ (T' : List (BitVec 64)) (M' : List LinkV), Soft m ⟨T', zL m, E.crash ps⟩ ∧ (E.crash ps).Up ∧ Seg (fetch (shN m) T' (zL m) (E.crash ps)) S.first M' 0#64 ∧ FallL M' ∧ (M'.length = q ∨ M'.length = S.M.length) ∧
  ∀ i (h1 : i < M'.length) (h2 : i < S.M.length), M'[i].off = S.M[i].off ∧ M'[i].text = S.M[i].text ∧ M'[i].stamp = S.M[i].stamp ∧ M'[i].gone = S.M[i].gone
theorem left_same {S : BS} (h : ChI m n S) (hm : m = 12) (hn : n < 48) (q : Nat) : Left m S q S.V.D := fun ps => by
  obtain ⟨s1, s2⟩ := h.soft.crash hm ps
  have hst := h.stands (by omega)
  refine ⟨S.V.T, S.M, s1, s2, lists hm h.soft.small s1.ds.lines s2.down h.lnk (fun k hk => stands_keep (hst k hk) (fun j _ _ h => h) (fun j hj _ w hw => h.soft.ds.crash_word ps (by omega))), h.fall, .inr rfl, fun _ _ _ => ⟨rfl, rfl, rfl, rfl⟩⟩
theorem left_trim {S : BS} (h : ChI m n S) (hm : m = 12) (hn : n < 48) {q : Nat} (hq1 : 1 ≤ q) (hqn : q ≤ n) : Left m S q (trimV (shN m) S.V S.M (q : Int)).1.D := by
  have hl := h.len
  by_cases e : q = n
  · have hV : trimV (shN m) S.V S.M (q : Int) = (S.V, 0) := by
      unfold trimV
      rw [if_neg (by omega), if_pos (by omega)]
    rw [hV]
    exact left_same h hm hn q
  · have hcut : ∀ {T' : List (BitVec 64)} {D' : NM.Dv}, Soft m ⟨T', zL m, D'⟩ → D'.Up → (∀ k ∈ cutL S.M q, Stands m T' D' k) → ∃ M', Seg (fetch (shN m) T' (zL m) D') S.first M' 0#64 ∧ FallL M' ∧ (M'.length = q ∨ M'.length = S.M.length) ∧ ∀ i (h1 : i < M'.length) (h2 : i < S.M.length), M'[i].off = S.M[i].off ∧ M'[i].text = S.M[i].text ∧ M'[i].stamp = S.M[i].stamp ∧ M'[i].gone = S.M[i].gone := fun s u hs =>
      ⟨cutL S.M q, lists hm s.small s.ds.lines u.down (cutL_lnk h.lnk hq1) hs, cutL_fall h.fall, .inl (by rw [cutL_len]; omega), fun i h1 h2 => cutL_same h1 h2⟩
    rcases trim_soft h hm hn hq1 (by omega) with ⟨a1, a2, a3, a4⟩ | ⟨a1, a2, a3, a4⟩
    · intro ps
      obtain ⟨s1, s2⟩ := a2.crash hm ps
      obtain ⟨M', g1, g2, g3, g4⟩ := hcut s1 s2 (fun k hk => stands_keep (a4 k hk) (fun j _ _ h => h) (fun j hj _ w hw => a2.ds.crash_word ps (by omega)))
      exact ⟨_, M', s1, s2, g1, g2, g3, g4⟩
    · intro ps
      obtain ⟨T', s1, s2, s3⟩ := a4 ps
      rcases s3 with s3 | s3
      · exact ⟨T', S.M, s1, s2, lists hm s1.small s1.ds.lines s2.down h.lnk s3, h.fall, .inr rfl, fun _ _ _ => ⟨rfl, rfl, rfl, rfl⟩⟩
      · obtain ⟨M', g1, g2, g3, g4⟩ := hcut s1 s2 s3
        exact ⟨T', M', s1, s2, g1, g2, g3, g4⟩
theorem left_add {S : BS} (h : ChI m n S) (hm : m = 12) (hn : n < 48) (q : Nat) {r : LinkV} (hr : r.right = true) : Left m S q (addV (shN m) S.V r).1.D := by
  have hst := h.stands (by omega)
  have hl := h.len
  have hblk : ∀ k ∈ S.M, ∀ j, k.off = ((256 + 64 * j : Nat) : Int) → j < n := fun k hk j e => by
    obtain ⟨i, hi, rfl⟩ := List.getElem_of_mem hk
    rw [h.offs i hi] at e; omega
  have old : ∀ {T' : List (BitVec 64)} {D' : NM.Dv}, Soft m ⟨T', zL m, D'⟩ → D'.Up → (T' = tkL m n ∨ T' = tkL m (n + 1)) → (∀ x, x % 8 = 0 → 256 ≤ x → x < 256 + 64 * n → D'.word x = S.V.D.word x) → Seg (fetch (shN m) T' (zL m) D') S.first S.M 0#64 := fun s u hT hw =>
    lists hm s.small s.ds.lines u.down h.lnk (fun k hk => stands_keep (hst k hk) (fun j hj e _ => by
      have := hblk k hk j e
      rcases hT with rfl | rfl
      · rw [tkn_tkL hj]; exact decide_eq_true (by omega)
      · rw [tkn_tkL hj]; exact decide_eq_true (by omega)) (fun j hj e w hw8 => by
      have := hblk k hk j e
      exact hw _ (by omega) (by omega) (by omega)))
  intro ps
  rcases add_soft h.soft hm h.tab hn hr with ⟨_, a2, a3, a4⟩ | ⟨_, a2, a3, a4⟩
  · obtain ⟨s1, s2⟩ := a2.crash hm ps
    exact ⟨_, S.M, s1, s2, old s1 s2 (.inr a3) (fun x hx hx2 hx3 => by
      have := a2.ds.crash_word ps (x := x) (by omega)
      rw [this, a4 x hx hx2 (by omega), if_neg (by omega)]), h.fall, .inr rfl, fun _ _ _ => ⟨rfl, rfl, rfl, rfl⟩⟩
  · obtain ⟨T', hT', s1, s2, s3⟩ := a4 ps
    exact ⟨T', S.M, s1, s2, old s1 s2 hT' (fun x hx hx2 hx3 => s3 x hx hx2 (by omega) (.inl hx3)), h.fall, .inr rfl, fun _ _ _ => ⟨rfl, rfl, rfl, rfl⟩⟩
end
section
set_option linter.unusedSimpArgs false
set_option maxHeartbeats 8000000
theorem chainWhole_walk (a0 : Option Addr) (l : List LinkV) (cap : Nat) (x1 x2 : BitVec 8) (a2 : Option Addr) (l2 : List (BitVec 8)) (cap2 : Nat) (w0 : World) (hF : Fours w0) (hT : Tabs w0) (hin : RcsIn w0 a0 l cap) (in2 : SlIn .u8 w0 a2 l2 cap2) :
    Ret Tryd.prog 8 #[.slice a0 l.length cap, .int .u8 (uv x1), .agg #[.int .u8 (uv x2), .slice a2 l2.length cap2]] w0 fun v w' => v = .bool true ∧ Below w0.heap.size w0 w' := by
  have bel0 := Below.refl w0.heap.size w0
  obtain ⟨m, hm⟩ : ∃ m : Nat, m = 12 := ⟨_, rfl⟩
  refine ret_of (args := [_, _, _]) _ Tryd.func8 rfl Tryd.ntmps8 (by simp) ?_
  simp -implicitDefEqProofs [go_sem]
  generalize hw1 : World.alloc w0 _ = w1 at *
  obtain ⟨hB1, b1, sz1⟩ := new_facts hw1
  have bel1 := bel0.trans (b1.mono bel0.size)
  refine callE_of (chAlive_calls w1 (hF.next bel1) (hT.next bel1)) ?_
  rintro v w2 ⟨rfl, b2⟩
  have bel2 := bel1.trans (b2.mono bel1.size)
  simp -implicitDefEqProofs [go_sem]
  refine callE_of (few_calls (hin.next bel2)) ?_
  rintro v w3 ⟨rfl, b3⟩
  have bel3 := bel2.trans (b3.mono bel2.size)
  have hB3 := (hB1.next b2).next b3
  cases hfew : fewB l
  · simp -implicitDefEqProofs [go_sem]
    refine body_tmp 6 rfl ?_
    simp -implicitDefEqProofs [go_sem]
    exact bel3
  have hl40 : l.length ≤ 40 := by unfold fewB at hfew; simp at hfew; exact hfew.2
  by_cases hl0 : l.length = 0
  · simp -implicitDefEqProofs [go_sem, hl0]
    refine body_tmp 6 rfl ?_
    simp -implicitDefEqProofs [go_sem]
    exact bel3
  have hl0' : ((l.length : Int) == 0) = false := by rw [beq_eq_false_iff_ne]; omega
  by_cases h100 : (100 : Int) < l2.length
  · simp -implicitDefEqProofs [go_sem, hl0, hl0', hB3.cell, h100]
    refine body_tmp 6 rfl ?_
    simp -implicitDefEqProofs [go_sem]
    exact bel3
  simp -implicitDefEqProofs [go_sem, hl0, hl0', hB3.cell, h100]
  refine callE_of (built_calls hm a0 l cap w3 (hF.next bel3) (hT.next bel3) (hin.next bel3) hl40) ?_
  have hBl := blt hm l hl40 l.length (Nat.le_refl _)
  generalize bldS m l l.length = S at *
  obtain ⟨⟨n, hn, hC⟩, hu, hst, -⟩ := hBl
  have hMn := hC.len
  rintro v w4 ⟨p, b, tb, tc, hb, hc, F, am, cm, rfl, hP, hge, hinM, hsep, b4⟩
  have bel4 := bel3.trans (b4.mono bel3.size)
  have hB4 := hB3.next b4
  have hge0 : ∀ k, PdK b tb hb F k → w0.heap.size ≤ k := fun k hk => by have := hge k hk; have := bel3.size; omega
  by_cases hM0 : S.M.length = 0
  · simp -implicitDefEqProofs [go_sem, hM0]
    refine body_tmp 6 rfl ?_
    simp -implicitDefEqProofs [go_sem]
    exact bel4
  have hM0' : ((S.M.length : Int) == 0) = false := by rw [beq_eq_false_iff_ne]; omega
  simp -implicitDefEqProofs [go_sem, hM0, hM0']
  refine callE_of (listOk_calls hm hP hC.soft hu.down (hC.listed hm (by omega) hu.down) hC.fall) ?_
  rintro v w5 ⟨ak, ck, rfl, hk5, hnk, b5⟩
  have bel5 := bel4.trans (b5.mono bel4.size)
  have hP5 := hP.next b5
  have hB5 := hB4.next b5
  obtain ⟨q, hq⟩ : ∃ q : Nat, q = x1.toNat % S.M.length + 1 := ⟨_, rfl⟩
  have hqm := Nat.mod_lt x1.toNat (show 0 < S.M.length by omega)
  have hq0 : (uv x1).tmod (S.M.length : Int) + 1 = (q : Int) := by
    unfold uv
    rw [hq, Int.tmod_eq_emod_of_nonneg (by omega)]; rfl
  have hqr : (uv x1).tmod (S.M.length : Int) = ((q - 1 : Nat) : Int) := by omega
  have i1 := IntWalk.i64_in ((q - 1 : Nat) : Int) (by omega)
  have hq1 : ((q - 1 : Nat) : Int) + 1 = (q : Int) := by omega
  have i2 := IntWalk.i64_in (q : Int) (by omega)
  obtain ⟨z, hz⟩ : ∃ z : Int, z = uv (x2 % 30#8) := ⟨_, rfl⟩
  have hz30 : 0 ≤ z ∧ z < 30 := by
    rw [hz]; unfold uv
    have := (x2 % 30#8).isLt
    have h2 : (x2 % 30#8).toNat = x2.toNat % 30 := by simp
    omega
  have i3 := IntWalk.i64_in z (by omega)
  have iu := IntWalk.i64_in (uv x1) (by unfold uv; have := x1.isLt; omega)
  have hqq : IntKind.i64.wrap ((IntKind.i64.wrap (uv x1)).tmod (S.M.length : Int) + 1) = (q : Int) := by rw [iu, hq0, i2]
  simp -implicitDefEqProofs [go_sem, hM0, hM0', hB5.cell, hqq, ← hz, i3]
  refine callE_of (stopB z w5 hP5.dev (by omega)) ?_
  rintro v w6 ⟨rfl, F6, hd6, t6⟩
  have hP6 := hP5.turn hd6 t6
  have tt6 := turn_pd (b := b) (tb := tb) (hb := hb) t6
  have bel6 := bel5.trans (tt6.mod.below bel5.size hge0)
  have hge6 := tt6.ge bel5.size hge0
  have hgF0 : ¬ PdK b tb hb F w0.heap.size := fun h => by have := hge _ h; have := hB3.lt; omega
  have hnkP : ∀ y, ak = some y → y.block < w5.heap.size ∧ ¬ PdK b tb hb F y.block := fun y hy => by
    obtain ⟨h1, h2⟩ := hnk y hy
    refine ⟨h2, fun hf => ?_⟩
    have := hP.lt _ hf; omega
  have hB6 := hB5.mod tt6.mod hgF0
  have hk6 := hk5.mod tt6.mod (fun y hy => (hnkP y hy).2)
  have hC6 := hC.stop (z := z) (by omega)
  have hst6 : (S.V.D.stop z).steps ≤ 100000 + 23 * l.length := by rw [NM.stop_steps]; exact hst
  have hgF6 : ¬ PdK b tb hb F6 w0.heap.size := not_new hgF0 hB5.lt tt6
  have hnk6 : ∀ y, ak = some y → y.block < w6.heap.size ∧ ¬ PdK b tb hb F6 y.block := fun y hy => ⟨Nat.lt_of_lt_of_le (hnkP y hy).1 tt6.size, not_new (hnkP y hy).2 (hnkP y hy).1 tt6⟩
  have hB6d := hB6.next (Below.refl _ _).drew
  obtain ⟨S2, hS2⟩ : ∃ S2 : BS, S2 = { S with V := { S.V with D := S.V.D.stop z } } := ⟨_, rfl⟩
  rw [← hS2] at hC6
  have e1 : S2.V = { S.V with D := S.V.D.stop z } := by rw [hS2]
  have e2 : S2.M = S.M := by rw [hS2]
  have e3 : S2.first = S.first := by rw [hS2]
  have e4 : S2.V.D = S.V.D.stop z := by rw [hS2]
  have e5 : S2.V.T = S.V.T := by rw [hS2]
  have e6 : S2.V.H = S.V.H := by rw [hS2]
  rw [← e4, ← e5, ← e6] at hP6
  rw [← e4] at hst6
  by_cases hpar : x2 % 2#8 = 0#8
  · have hpar' : (x2 % 2#8 == 0#8) = true := by rw [beq_iff_eq]; exact hpar
    obtain ⟨Q, hQe⟩ : ∃ Q : Nat, Q = q := ⟨_, rfl⟩
    have hQQ : (q : Int) = (Q : Int) := by rw [hQe]
    have hle := left_trim hC6 hm (by omega) (q := Q) (by omega) (by omega)
    simp -implicitDefEqProofs [go_sem, hB6.cell, hpar, hpar']
    rw [hQQ]
    refine callE_of (trim_calls S2.V (Q : Int) w6 hP6 (tab128 m) (by rw [e5, hC.soft.small.len]; omega) (dat_ok m) (by omega) hk6 hnk6
      (fun k hk => by
        obtain ⟨j, hj, e, _⟩ := hC.stands (by omega) k hk
        rw [e]; omega) (by unfold I64; omega) (by omega)) ?_
    have hRs := trim_steps (shN m) S2.V S2.M (Q : Int)
    rw [e2] at hRs hle
    rintro v w8 ⟨rfl, F8, hP8, t8⟩
    obtain ⟨R, hR⟩ : ∃ R, R = trimV (shN m) S2.V S.M (Q : Int) := ⟨_, rfl⟩
    rw [← hR] at hRs ⊢
    have bel8 := bel6.trans (t8.mod.below bel6.size hge6)
    have hge8 := t8.ge bel6.size hge6
    have hB8 := hB6.mod t8.mod hgF6
    have hk8 := hk6.mod t8.mod (fun y hy => (hnk6 y hy).2)
    have hnk8 : ∀ y, ak = some y → y.block < w8.heap.size ∧ ¬ PdK b tb hb F8 y.block := fun y hy => ⟨Nat.lt_of_lt_of_le (hnk6 y hy).1 t8.size, not_new (hnk6 y hy).2 (hnk6 y hy).1 t8⟩
    rw [← hR] at hP8 hle
    obtain ⟨R1, R2⟩ := R
    dsimp only at hP8 hle hRs
    simp -implicitDefEqProofs [go_sem, hB8.cell]
    refine callE_of (crashB a2 cap2 l2 w8 hP8.dev (in2.next bel8) (fun hne y hy hk => by
      obtain ⟨b', o', e2, g⟩ := in2.at_.cell (i := 0) (List.length_pos_iff.2 hne)
      have h2 := World.block_lt_of_cell? w0 _ g
      rw [hy] at e2; cases e2
      have := hge8 _ (.inl hk)
      dsimp only at h2 this; omega) (by omega)) ?_
    rintro v w9 ⟨rfl, F9, hd9, t9⟩
    obtain ⟨T', M', s1, u1, g1, f1, l1, c1⟩ := hle l2
    rw [e3] at g1
    rw [e2] at l1 c1
    have tt9 := turn_pd (b := b) (tb := tb) (hb := hb) t9
    have bel9 := bel8.trans (tt9.mod.below bel8.size hge8)
    have hk9 := hk8.mod tt9.mod (fun y hy => (hnk8 y hy).2)
    have hst9 : (R1.D.crash l2).steps ≤ 100000 + 3 * 1000 := by rw [NM.crash_stepsE]; omega
    simp -implicitDefEqProofs [go_sem]
    refine callE_of (reopen_calls hm s1 u1 hst9 w9 hd9 (hF.next bel9)) ?_
    rintro v w10 ⟨o, ta, tac, ha, hac, rfl, hQ10, b10, hgq⟩
    have bel10 := bel9.trans (b10.mono bel9.size)
    simp -implicitDefEqProofs [go_sem]
    refine callE_of (listOk_calls (V := ⟨T', zL m, R1.D.crash l2⟩) hm hQ10 s1 u1.down g1 f1) ?_
    rintro v w11 ⟨aj, cj, rfl, hj11, -, b11⟩
    have bel11 := bel10.trans (b11.mono bel10.size)
    have hk11 := (hk9.next b10).next b11
    by_cases hlq : M'.length = Q
    · have hb1 : ((M'.length : Int) != (Q : Int)) = false := by rw [bne_eq_false_iff_eq]; omega
      simp -implicitDefEqProofs [go_sem, hb1, hQQ]
      refine wpE_loop (fun e' w' => ∃ k : Nat, k ≤ M'.length ∧ e' 11 = .slice ak S.M.length ck ∧ e' 16 = .slice aj M'.length cj ∧ e' 120 = .int .i64 M'.length ∧ e' 121 = .int .i64 k ∧ Below w11.heap.size w11 w') (fun e' _ => M'.length - (intOf (e' 121)).toNat) ?_ ?_
      · refine ⟨0, by omega, ?_⟩
        simp -implicitDefEqProofs [go_sem]
        exact Below.refl _ _
      · rintro e' w12 ⟨k, hk, q11, q16, q120, q121, b12⟩
        by_cases hlt : k < M'.length
        · have hlt' : (k : Int) < M'.length := by omega
          have hlm : k < S.M.length := by omega
          have hlm' : (k : Int) < S.M.length := by omega
          have hwk := IntWalk.i64_in ((k : Int) + 1) (by omega)
          have b13 := b12.drew
          obtain ⟨bj, oj, hej, x0, x1', -, x3, x4⟩ := (hj11.next b13).cells hlt
          obtain ⟨bk, ok, hek, y0, y1', -, y3, y4⟩ := (hk11.next b13).cells hlm
          subst hej
          subst hek
          obtain ⟨z1, z2, z3, z4⟩ := c1 k hlt hlm
          rw [z1] at x0
          rw [z3] at x1'
          rw [z2] at x4
          rw [z4] at x3
          simp -implicitDefEqProofs [go_sem, q11, q16, q120, q121, hlt, hlt']
          refine drawE_still mixed (by decide +kernel) ?_
          generalize World.drew w12 = w13 at *
          simp -implicitDefEqProofs [go_sem, q11, q16, q120, q121, hlt, hlt', hlm, hlm', x0, x1', x3, x4, y0, y1', y3, y4]
          unfold endE
          simp -implicitDefEqProofs [go_sem, q11, q16, q120, q121, hwk]
          refine goE_round ⟨k + 1, by omega, ?_⟩ ?_
          · simp -implicitDefEqProofs [go_sem, q11, q16, q120]; exact b13
          · simp -implicitDefEqProofs [go_sem, intOf, q121, hwk]; omega
        · have hn' : ¬ (k : Int) < M'.length := by omega
          simp -implicitDefEqProofs [go_sem, q11, q16, q120, q121, hlt, hn']
          refine body_tmp 6 rfl ?_
          simp -implicitDefEqProofs [go_sem]
          exact bel11.trans (b12.mono bel11.size)
    · have hlm : M'.length = S.M.length := by omega
      have hb1 : ((M'.length : Int) != (Q : Int)) = true := by rw [bne_iff_ne]; omega
      have hb2 : ((M'.length : Int) != (S.M.length : Int)) = false := by rw [bne_eq_false_iff_eq]; omega
      simp -implicitDefEqProofs [go_sem, hb1, hb2, hQQ]
      refine wpE_loop (fun e' w' => ∃ k : Nat, k ≤ M'.length ∧ e' 11 = .slice ak S.M.length ck ∧ e' 16 = .slice aj M'.length cj ∧ e' 120 = .int .i64 M'.length ∧ e' 121 = .int .i64 k ∧ Below w11.heap.size w11 w') (fun e' _ => M'.length - (intOf (e' 121)).toNat) ?_ ?_
      · refine ⟨0, by omega, ?_⟩
        simp -implicitDefEqProofs [go_sem]
        exact Below.refl _ _
      · rintro e' w12 ⟨k, hk, q11, q16, q120, q121, b12⟩
        by_cases hlt : k < M'.length
        · have hlt' : (k : Int) < M'.length := by omega
          have hlm : k < S.M.length := by omega
          have hlm' : (k : Int) < S.M.length := by omega
          have hwk := IntWalk.i64_in ((k : Int) + 1) (by omega)
          have b13 := b12.drew
          obtain ⟨bj, oj, hej, x0, x1', -, x3, x4⟩ := (hj11.next b13).cells hlt
          obtain ⟨bk, ok, hek, y0, y1', -, y3, y4⟩ := (hk11.next b13).cells hlm
          subst hej
          subst hek
          obtain ⟨z1, z2, z3, z4⟩ := c1 k hlt hlm
          rw [z1] at x0
          rw [z3] at x1'
          rw [z2] at x4
          rw [z4] at x3
          simp -implicitDefEqProofs [go_sem, q11, q16, q120, q121, hlt, hlt']
          refine drawE_still mixed (by decide +kernel) ?_
          generalize World.drew w12 = w13 at *
          simp -implicitDefEqProofs [go_sem, q11, q16, q120, q121, hlt, hlt', hlm, hlm', x0, x1', x3, x4, y0, y1', y3, y4]
          unfold endE
          simp -implicitDefEqProofs [go_sem, q11, q16, q120, q121, hwk]
          refine goE_round ⟨k + 1, by omega, ?_⟩ ?_
          · simp -implicitDefEqProofs [go_sem, q11, q16, q120]; exact b13
          · simp -implicitDefEqProofs [go_sem, intOf, q121, hwk]; omega
        · have hn' : ¬ (k : Int) < M'.length := by omega
          simp -implicitDefEqProofs [go_sem, q11, q16, q120, q121, hlt, hn']
          refine body_tmp 6 rfl ?_
          simp -implicitDefEqProofs [go_sem]
          exact bel11.trans (b12.mono bel11.size)
  · have hpar' : (x2 % 2#8 == 0#8) = false := by rw [beq_eq_false_iff_ne]; exact hpar
    simp -implicitDefEqProofs [go_sem, hB6.cell, hpar, hpar']
    obtain ⟨r, hr⟩ : ∃ r : LinkV, r = ⟨0, 1000#64, S.first, false, ⟨#[110, 101, 119]⟩⟩ := ⟨_, rfl⟩
    have hrr : r.right = true := by rw [hr]; rfl
    have hrc : r.rc = #[.int .u64 1000, .int .u64 (uv S.first), .bool false, .string ⟨#[110, 101, 119]⟩] := by rw [hr]; rfl
    have hle := left_add hC6 hm (by omega) S.M.length hrr
    have hres : (reserveV (shN m) S2.V 1).2.1 = ((256 + 64 * n : Nat) : Int) := by
      have h1 := (res_facts (D := S2.V.D) hm (show n < 48 by omega)).1
      have h2 : S2.V = ⟨tkL m n, zL m, S2.V.D⟩ := by rw [← hC6.tab, ← hC6.soft.held]
      rw [h2, h1]
    rw [← hrc]
    refine callE_of (Dq.add_calls S2.V r w6 hP6 (hT.next bel6) (tab128 m) (by rw [e5, hC.soft.small.len]; omega) (by omega) (dat_ok m) (by rw [hres]; unfold I64; omega)) ?_
    have hRs := add_steps hm hC6.tab hC6.soft.held hC6.soft.ds.lines (show n < 48 by omega) hrr
    rintro v w8 ⟨rfl, F8, hP8, t8⟩
    obtain ⟨R, hR⟩ : ∃ R, R = addV (shN m) S2.V r := ⟨_, rfl⟩
    rw [← hR] at hRs ⊢
    have bel8 := bel6.trans (t8.mod.below bel6.size hge6)
    have hge8 := t8.ge bel6.size hge6
    have hB8 := hB6.mod t8.mod hgF6
    have hk8 := hk6.mod t8.mod (fun y hy => (hnk6 y hy).2)
    have hnk8 : ∀ y, ak = some y → y.block < w8.heap.size ∧ ¬ PdK b tb hb F8 y.block := fun y hy => ⟨Nat.lt_of_lt_of_le (hnk6 y hy).1 t8.size, not_new (hnk6 y hy).2 (hnk6 y hy).1 t8⟩
    rw [← hR] at hP8 hle
    obtain ⟨R1, R2⟩ := R
    dsimp only at hP8 hle hRs
    simp -implicitDefEqProofs [go_sem, hB8.cell]
    refine callE_of (crashB a2 cap2 l2 w8 hP8.dev (in2.next bel8) (fun hne y hy hk => by
      obtain ⟨b', o', e2, g⟩ := in2.at_.cell (i := 0) (List.length_pos_iff.2 hne)
      have h2 := World.block_lt_of_cell? w0 _ g
      rw [hy] at e2; cases e2
      have := hge8 _ (.inl hk)
      dsimp only at h2 this; omega) (by omega)) ?_
    rintro v w9 ⟨rfl, F9, hd9, t9⟩
    obtain ⟨T', M', s1, u1, g1, f1, l1, c1⟩ := hle l2
    rw [e3] at g1
    rw [e2] at l1 c1
    have tt9 := turn_pd (b := b) (tb := tb) (hb := hb) t9
    have bel9 := bel8.trans (tt9.mod.below bel8.size hge8)
    have hk9 := hk8.mod tt9.mod (fun y hy => (hnk8 y hy).2)
    have hst9 : (R1.D.crash l2).steps ≤ 100000 + 3 * 1000 := by rw [NM.crash_stepsE]; omega
    simp -implicitDefEqProofs [go_sem]
    refine callE_of (reopen_calls hm s1 u1 hst9 w9 hd9 (hF.next bel9)) ?_
    rintro v w10 ⟨o, ta, tac, ha, hac, rfl, hQ10, b10, hgq⟩
    have bel10 := bel9.trans (b10.mono bel9.size)
    simp -implicitDefEqProofs [go_sem]
    refine callE_of (listOk_calls (V := ⟨T', zL m, R1.D.crash l2⟩) hm hQ10 s1 u1.down g1 f1) ?_
    rintro v w11 ⟨aj, cj, rfl, hj11, -, b11⟩
    have bel11 := bel10.trans (b11.mono bel10.size)
    have hk11 := (hk9.next b10).next b11
    have hlm : M'.length = S.M.length := by omega
    have hb1 : ((M'.length : Int) != (S.M.length : Int)) = false := by rw [bne_eq_false_iff_eq]; omega
    simp -implicitDefEqProofs [go_sem, hb1]
    refine wpE_loop (fun e' w' => ∃ k : Nat, k ≤ M'.length ∧ e' 11 = .slice ak S.M.length ck ∧ e' 16 = .slice aj M'.length cj ∧ e' 120 = .int .i64 M'.length ∧ e' 121 = .int .i64 k ∧ Below w11.heap.size w11 w') (fun e' _ => M'.length - (intOf (e' 121)).toNat) ?_ ?_
    · refine ⟨0, by omega, ?_⟩
      simp -implicitDefEqProofs [go_sem]
      exact Below.refl _ _
    · rintro e' w12 ⟨k, hk, q11, q16, q120, q121, b12⟩
      by_cases hlt : k < M'.length
      · have hlt' : (k : Int) < M'.length := by omega
        have hlm : k < S.M.length := by omega
        have hlm' : (k : Int) < S.M.length := by omega
        have hwk := IntWalk.i64_in ((k : Int) + 1) (by omega)
        have b13 := b12.drew
        obtain ⟨bj, oj, hej, x0, x1', -, x3, x4⟩ := (hj11.next b13).cells hlt
        obtain ⟨bk, ok, hek, y0, y1', -, y3, y4⟩ := (hk11.next b13).cells hlm
        subst hej
        subst hek
        obtain ⟨z1, z2, z3, z4⟩ := c1 k hlt hlm
        rw [z1] at x0
        rw [z3] at x1'
        rw [z2] at x4
        rw [z4] at x3
        simp -implicitDefEqProofs [go_sem, q11, q16, q120, q121, hlt, hlt']
        refine drawE_still mixed (by decide +kernel) ?_
        generalize World.drew w12 = w13 at *
        simp -implicitDefEqProofs [go_sem, q11, q16, q120, q121, hlt, hlt', hlm, hlm', x0, x1', x3, x4, y0, y1', y3, y4]
        unfold endE
        simp -implicitDefEqProofs [go_sem, q11, q16, q120, q121, hwk]
        refine goE_round ⟨k + 1, by omega, ?_⟩ ?_
        · simp -implicitDefEqProofs [go_sem, q11, q16, q120]; exact b13
        · simp -implicitDefEqProofs [go_sem, intOf, q121, hwk]; omega
      · have hn' : ¬ (k : Int) < M'.length := by omega
        simp -implicitDefEqProofs [go_sem, q11, q16, q120, q121, hlt, hn']
        refine body_tmp 6 rfl ?_
        simp -implicitDefEqProofs [go_sem]
        exact bel11.trans (b12.mono bel11.size)
end
end Go.Proofs.YtejpophjiinijaaDoor
