/- The laws of word: WordOthers, WordBack. -/
import Derived.Test.YtcaekgkogiggoaaDoorWordLaw
namespace Go.Proofs.YtcaekgkogiggoaaDoor
open Go Go.RowKit

set_option maxHeartbeats 1000000 in
set_option linter.unusedSimpArgs false in
theorem wordOthers_walk (a : Option Addr) (l : List (BitVec 8)) (cap : Nat) (p : Int) (x : BitVec 64) (w0 : World) (hT : Tabs w0) (hin : SlIn .u8 w0 a l cap) (hp : I64 p) :
    Ret Tryd.prog 6 #[.slice a l.length cap, .int .i64 p, .int .u64 (uv x)] w0 fun v w' => v = .bool true ∧ Below w0.heap.size w0 w' := by
  have bel0 := Below.refl w0.heap.size w0
  refine ret_of (args := [_, _, _]) _ Tryd.func6 rfl Tryd.ntmps6 (by simp) ?_
  simp -implicitDefEqProofs [go_sem]
  refine callE_of (alive_calls w0 hT) ?_
  rintro v w1 ⟨rfl, b1⟩
  have bel1 := bel0.trans (b1.mono bel0.size)
  replace hin := hin.next b1
  by_cases hbig : (1000 : Int) < (l.length : Int)
  · simp -implicitDefEqProofs [go_sem, hbig]
    refine body_tmp 6 rfl ?_
    simp -implicitDefEqProofs [go_sem]
    exact bel1
  simp -implicitDefEqProofs [go_sem, hbig]
  refine callE_of (put_calls a l l.length cap p x w1 rfl (by omega) hin) ?_
  rintro v w2 ⟨a2, c2, rfl, hin2, b2⟩
  have bel2 := bel1.trans (b2.mono bel1.size)
  replace hin := hin.next b2
  have hlen : (putB l p x).length = l.length := putB_length _ _ _
  have hput : ∀ i, i < l.length → (l.getD i 0#8 = (putB l p x).getD i 0#8) ∨ (WM.hasB l.length p = true ∧ p ≤ i ∧ (i : Int) < p + 8) := by
    intro i hi
    unfold putB
    cases hh : WM.hasB l.length p
    · exact .inl rfl
    · obtain ⟨q, rfl, hq⟩ := WM.hasB_iff.1 hh
      rw [if_pos rfl, Int.toNat_natCast, WM.putM_getD _ _ _ _ hq]
      by_cases h : 8 * q ≤ i ∧ i < 8 * q + 8
      · exact .inr ⟨rfl, by omega, by omega⟩
      · rw [if_neg h]; exact .inl rfl
  have hp8 : WM.hasB l.length p = true → IntKind.i64.wrap (p + 8) = p + 8 := fun h => by
    obtain ⟨q, rfl, hq⟩ := WM.hasB_iff.1 h
    exact IntWalk.i64_in _ (by omega)
  generalize putB l p x = m at *
  simp -implicitDefEqProofs [go_sem]
  refine wpE_loop (fun e' w' => ∃ k : Nat, k ≤ l.length ∧ e' 0 = .slice a l.length cap ∧ e' 1 = .int .i64 p ∧ e' 7 = .slice a2 l.length c2 ∧ e' 8 = .bool (WM.hasB l.length p) ∧ e' 30 = .int .i64 l.length ∧ e' 31 = .int .i64 k ∧ Below w2.heap.size w2 w') (fun e' _ => l.length - (intOf (e' 31)).toNat) ?_ ?_
  · refine ⟨0, by omega, ?_⟩
    simp -implicitDefEqProofs [go_sem]
    exact Below.refl _ _
  · rintro e' w' ⟨k, hk, h0, h1, h7, h8, h30, h31, bel⟩
    by_cases hlt : k < l.length
    · obtain ⟨ba, oa, rfl, ga⟩ := (hin.next bel).at_.cellD (i := k) (by omega)
      obtain ⟨bb, ob, rfl, gb⟩ := (hin2.next bel).at_.cellD (i := k) (by omega)
      have hw := IntWalk.i64_in ((k : Int) + 1) (by omega)
      have hlt' : (k : Int) < l.length := by omega
      have hc := hput k hlt
      generalize l.getD k 0#8 = y at *
      generalize m.getD k 0#8 = z at *
      simp -implicitDefEqProofs [go_sem, h0, h1, h7, h8, h30, h31, hlt, hlt']
      refine drawE_still mixed (by decide +kernel) ?_
      rcases hc with rfl | ⟨hh, c1, c2⟩
      · simp -implicitDefEqProofs [go_sem, h0, h1, h7, h8, h30, h31, hlt, hlt', ga, gb]
        unfold endE
        simp -implicitDefEqProofs [go_sem, hw, h31]
        refine goE_round ⟨k + 1, by omega, ?_⟩ ?_
        · simp -implicitDefEqProofs [go_sem, h0, h1, h7, h8, h30]
          exact bel.drew
        · simp -implicitDefEqProofs [go_sem, intOf, h31]; omega
      · have c1' : ¬ (k : Int) < p := by omega
        have c2' : ¬ p + 8 ≤ (k : Int) := by omega
        have hp8' := hp8 hh
        by_cases hyz : y = z
        · simp -implicitDefEqProofs [go_sem, h0, h1, h7, h8, h30, h31, hlt, hlt', ga, gb, hyz]
          unfold endE
          simp -implicitDefEqProofs [go_sem, hw, h31]
          refine goE_round ⟨k + 1, by omega, ?_⟩ ?_
          · simp -implicitDefEqProofs [go_sem, h0, h1, h7, h8, h30]
            exact bel.drew
          · simp -implicitDefEqProofs [go_sem, intOf, h31]; omega
        · have hyz' : (y != z) = true := by rw [bne_iff_ne]; exact hyz
          rw [hh] at h8
          simp -implicitDefEqProofs [go_sem, h0, h1, h7, h8, h30, h31, hlt, hlt', ga, gb, hyz', c1', hp8', c2']
          unfold endE
          simp -implicitDefEqProofs [go_sem, hw, h31]
          refine goE_round ⟨k + 1, by omega, ?_⟩ ?_
          · simp -implicitDefEqProofs [go_sem, h0, h1, h7, h8, h30, hh]
            exact bel.drew
          · simp -implicitDefEqProofs [go_sem, intOf, h31]; omega
    · have hk' : k = l.length := by omega
      subst hk'
      simp -implicitDefEqProofs [go_sem, h0, h1, h7, h8, h30, h31]
      refine callE_of (get_calls a l l.length cap p w' rfl (by omega) (hin.next bel).at_) ?_
      rintro v w4 ⟨rfl, rfl⟩
      simp -implicitDefEqProofs [go_sem, h8]
      refine body_tmp 6 rfl ?_
      simp -implicitDefEqProofs [go_sem]
      exact bel2.trans (bel.mono bel2.size)

set_option maxHeartbeats 1000000 in
set_option linter.unusedSimpArgs false in
theorem wordBack_walk (a : Option Addr) (l : List (BitVec 64)) (cap : Nat) (at_ : BitVec 8) (x : BitVec 64) (w0 : World) (hT : Tabs w0) (hin : SlIn .u64 w0 a l cap) :
    Ret Tryd.prog 4 #[.slice a l.length cap, .int .u8 (uv at_), .int .u64 (uv x)] w0 fun v w' => v = .bool true ∧ Below w0.heap.size w0 w' := by
  have bel0 := Below.refl w0.heap.size w0
  refine ret_of (args := [_, _, _]) _ Tryd.func4 rfl Tryd.ntmps4 (by simp) ?_
  simp -implicitDefEqProofs [go_sem]
  refine callE_of (alive_calls w0 hT) ?_
  rintro v w1 ⟨rfl, b1⟩
  have bel1 := bel0.trans (b1.mono bel0.size)
  replace hin := hin.next b1
  by_cases hbig : (125 : Int) < (l.length : Int)
  · simp -implicitDefEqProofs [go_sem, hbig]
    refine body_tmp 6 rfl ?_
    simp -implicitDefEqProofs [go_sem]
    exact bel1
  by_cases h0 : l.length = 0
  · have h0' : ((l.length : Int) == 0) = true := by rw [beq_iff_eq]; omega
    simp -implicitDefEqProofs [go_sem, hbig, h0, h0']
    refine body_tmp 6 rfl ?_
    simp -implicitDefEqProofs [go_sem]
    exact bel1
  have h0' : ((l.length : Int) == 0) = false := by rw [beq_eq_false_iff_ne]; omega
  have h0'' : l ≠ [] := fun h => h0 (by rw [h]; rfl)
  obtain ⟨n, hn⟩ : ∃ n, n = l.length := ⟨_, rfl⟩
  rw [← hn] at hbig h0 h0' ⊢
  have hw8 := IntWalk.i64_in (8 * (n : Int)) (by omega)
  have hmk := run_make_n (P := Tryd.prog) Tryd.underlying30 info_u8 rfl .i64 .i64 (8 * n) (by omega) (by omega)
  rw [show ((8 * n : Nat) : Int) = 8 * (n : Int) by omega] at hmk
  have hat : (uv at_).tmod (n : Int) = ((at_.toNat % n : Nat) : Int) := (Int.ofNat_tmod _ _).symm
  have hkn : at_.toNat % n < n := Nat.mod_lt _ (by omega)
  have hwat := IntWalk.i64_in (uv at_) (by unfold uv; have := at_.isLt; omega)
  generalize at_.toNat % n = K at *
  simp -implicitDefEqProofs [go_sem, hbig, h0, h0', h0'', hw8, hmk]
  generalize hw2 : World.alloc w1 _ = w2 at *
  obtain ⟨hB2, b2, sz2⟩ := new_facts hw2
  have bel2 := bel1.trans (b2.mono bel1.size)
  replace hin := hin.next b2
  have hinB := slIn_rep (m := 8 * n) hB2 (by omega)
  have hn0 : ¬ n = 0 := h0
  have hn0' : ¬ (n : Int) = 0 := by omega
  refine wpE_loop (fun e' w' => ∃ (k : Nat) (b : Option Addr) (c : Nat) (L : List (BitVec 8)), k ≤ n ∧ e' 0 = .slice a n cap ∧ e' 1 = .int .u8 (uv at_) ∧ e' 2 = .int .u64 (uv x) ∧ e' 7 = .slice b (8 * n) c ∧ e' 35 = .slice a n cap ∧ e' 36 = .int .i64 n ∧ e' 37 = .int .i64 k ∧
    L.length = 8 * n ∧ SlIn .u8 w' b L c ∧ (∀ j, j < k → WM.getM L (8 * j) = l.getD j 0#64) ∧ Below w2.heap.size w2 w') (fun e' _ => n - (intOf (e' 37)).toNat) ?_ ?_
  · refine ⟨0, some ⟨w1.heap.size, 0, none⟩, 8 * n, List.replicate (8 * n) 0#8, by omega, ?_⟩
    simp -implicitDefEqProofs [go_sem]
    exact ⟨hinB, Below.refl _ _⟩
  · rintro e' w' ⟨k, b, c, L, hk, h0, h1, h2, h7, h35, h36, h37, hL, hinL, hget, bel⟩
    by_cases hlt : k < n
    · obtain ⟨ba, oa, rfl, ga⟩ := (hin.next bel).at_.cellD (i := k) (by omega)
      have hw := IntWalk.i64_in ((k : Int) + 1) (by omega)
      have hw8k := IntWalk.i64_in (8 * (k : Int)) (by omega)
      have hlt' : (k : Int) < n := by omega
      have hhas : WM.hasB (8 * n) (8 * (k : Int)) = true := by unfold WM.hasB; rw [decide_eq_true_iff]; omega
      have hP := put_calls b L (8 * n) c (8 * (k : Int)) (l.getD k 0#64) w' hL (by omega) hinL
      have hput : putB L (8 * (k : Int)) (l.getD k 0#64) = WM.putM L (8 * k) (l.getD k 0#64) := by
        unfold putB; rw [hL, if_pos hhas]; congr 1
      rw [hhas, hput] at hP
      have hget' : ∀ j, j < k + 1 → WM.getM (WM.putM L (8 * k) (l.getD k 0#64)) (8 * j) = l.getD j 0#64 := by
        intro j hj
        rw [WM.get_put _ _ _ _ (by omega)]
        by_cases h : k = j
        · rw [if_pos h, h]
        · rw [if_neg h]; exact hget j (by omega)
      have hL' : (WM.putM L (8 * k) (l.getD k 0#64)).length = 8 * n := by rw [WM.putM_length, hL]
      generalize WM.putM L (8 * k) (l.getD k 0#64) = L' at *
      simp only [List.getD_eq_getElem?_getD] at ga hP
      simp -implicitDefEqProofs [go_sem, h0, h1, h2, h7, h35, h36, h37, hlt, hlt', ga, hw8k]
      refine callE_of hP ?_
      rintro v w3 ⟨b3, c3, rfl, hin3, bel3⟩
      simp -implicitDefEqProofs [go_sem, h0, h1, h2, h7, h37, hw]
      refine goE_round ⟨k + 1, b3, c3, L', by omega, ?_⟩ ?_
      · simp -implicitDefEqProofs [go_sem, h0, h1, h2, h7, h35, h36, hw, hL']
        exact ⟨hin3, by simpa using hget', bel.trans (bel3.mono bel.size)⟩
      · simp -implicitDefEqProofs [go_sem, intOf, h37, hw]; omega
    · have hk' : k = n := by omega
      subst hk'
      have hw8K := IntWalk.i64_in (8 * (K : Int)) (by omega)
      have hhas : WM.hasB (8 * k) (8 * (K : Int)) = true := by unfold WM.hasB; rw [decide_eq_true_iff]; omega
      have hP := put_calls b L (8 * k) c (8 * (K : Int)) x w' hL (by omega) hinL
      have hput : putB L (8 * (K : Int)) x = WM.putM L (8 * K) x := by
        unfold putB; rw [hL, if_pos hhas]; congr 1
      rw [hhas, hput] at hP
      have hgp := fun j => WM.get_put L K j x (by omega)
      have hL' : (WM.putM L (8 * K) x).length = 8 * k := by rw [WM.putM_length, hL]
      generalize WM.putM L (8 * K) x = M at *
      simp -implicitDefEqProofs [go_sem, h0, h1, h2, h7, h35, h36, h37, hwat, hat, hw8K, hn0, hn0']
      refine callE_of hP ?_
      rintro v w3 ⟨b3, c3, rfl, hin3, bel3⟩
      have hinL3 := hinL.next bel3
      have bel' := bel2.trans ((bel.trans (bel3.mono bel.size)).mono bel2.size)
      replace hin := (hin.next bel).next bel3
      simp -implicitDefEqProofs [go_sem, h0, h1, h2, h7]
      refine wpE_loop (fun e' w' => ∃ i : Nat, i ≤ k ∧ w' = w3 ∧ e' 2 = .int .u64 (uv x) ∧ e' 7 = .slice b (8 * k) c ∧ e' 13 = .slice b3 (8 * k) c3 ∧ e' 12 = .int .i64 K ∧ e' 76 = .slice a k cap ∧ e' 77 = .int .i64 k ∧ e' 78 = .int .i64 i) (fun e' _ => k - (intOf (e' 78)).toNat) ?_ ?_
      · refine ⟨0, by omega, ?_⟩
        simp -implicitDefEqProofs [go_sem, h0, h1, h2, h7]
      · rintro e'' w'' ⟨i, hi, rfl, g2, g7, g13, g12, g76, g77, g78⟩
        by_cases hlti : i < k
        · obtain ⟨ba, oa, rfl, ga⟩ := hin.at_.cellD (i := i) (by omega)
          have hw := IntWalk.i64_in ((i : Int) + 1) (by omega)
          have hw8i := IntWalk.i64_in (8 * (i : Int)) (by omega)
          have hlti' : (i : Int) < k := by omega
          have hhi : WM.hasB (8 * k) (8 * (i : Int)) = true := by unfold WM.hasB; rw [decide_eq_true_iff]; omega
          have hG1 := get_calls b L (8 * k) c (8 * (i : Int)) w'' hL (by omega) hinL3.at_
          have hG2 := get_calls b3 M (8 * k) c3 (8 * (i : Int)) w'' hL' (by omega) hin3.at_
          have e8 : (8 * (i : Int)).toNat = 8 * i := by omega
          rw [hhi, if_pos rfl, e8, hget i hlti] at hG1
          rw [hhi, if_pos rfl, e8, hgp, hget i hlti] at hG2
          simp only [List.getD_eq_getElem?_getD] at ga hG1 hG2
          generalize l[i]?.getD 0#64 = z at *
          simp -implicitDefEqProofs [go_sem, g2, g7, g13, g12, g76, g77, g78, hlti, hlti', ga, hw8i]
          refine callE_of hG1 ?_
          rintro v w5 ⟨rfl, rfl⟩
          simp -implicitDefEqProofs [go_sem, g2, g7, g13, g12, g76, g77, g78, hw8i]
          refine callE_of hG2 ?_
          rintro v w6 ⟨rfl, rfl⟩
          by_cases hKi : K = i
          · have c1 : ((i : Int) != K) = false := by rw [bne_eq_false_iff_eq]; omega
            have c2 : ((i : Int) == K) = true := by rw [beq_iff_eq]; omega
            simp -implicitDefEqProofs [go_sem, g2, g7, g13, g12, g76, g77, g78, hw, hKi, c1, c2]
            refine goE_round ⟨i + 1, by omega, rfl, ?_⟩ ?_
            · simp -implicitDefEqProofs [go_sem, g2, g7, g13, g12, g76, g77, hKi]
            · simp -implicitDefEqProofs [go_sem, intOf, g78, hw]; omega
          · have c1 : ((i : Int) != K) = true := by rw [bne_iff_ne]; omega
            have c2 : ((i : Int) == K) = false := by rw [beq_eq_false_iff_ne]; omega
            simp -implicitDefEqProofs [go_sem, g2, g7, g13, g12, g76, g77, g78, hw, hKi, c1, c2]
            refine goE_round ⟨i + 1, by omega, rfl, ?_⟩ ?_
            · simp -implicitDefEqProofs [go_sem, g2, g7, g13, g12, g76, g77]
            · simp -implicitDefEqProofs [go_sem, intOf, g78, hw]; omega
        · have hi' : i = k := by omega
          subst hi'
          simp -implicitDefEqProofs [go_sem, g2, g7, g13, g12, g76, g77, g78]
          refine body_tmp 6 rfl ?_
          simp -implicitDefEqProofs [go_sem]
          exact bel'
end Go.Proofs.YtcaekgkogiggoaaDoor
