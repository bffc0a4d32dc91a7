/- SureBack: its walk. -/
import Derived.Test.YtkljlgahdlgmpaaSure5
import Derived.Test.YtkljlgahdlgmpaaNvmCont
namespace Go.Proofs.Ytkljlgahdlgmpaa
open Go Go.RowKit

theorem info_u64 : (Try.prog.info? 28).map (fun i => (i.zero, i.size, i.bytes)) = some (some (.int .u64 0), 1, 8) := by kernel_rfl
theorem within_in {D : NM.Dv} (hp : 0 < D.ls.length) {o n : Nat} (h8 : o % 8 = 0) (h : o + 8 * n ≤ D.size) : D.within (o : Int) (n : Int) = 0 := by
  unfold NM.Dv.within
  rw [if_neg (by omega), if_neg, if_neg]
  · rintro (h1 | h1)
    · omega
    · rw [Int.tdiv_eq_ediv_of_nonneg (by omega)] at h1; omega
  · rintro (h1 | h1 | h1)
    · omega
    · omega
    · rw [Int.tmod_eq_emod_of_nonneg (by omega)] at h1; omega
theorem get_in {D : NM.Dv} (hp : 0 < D.ls.length) (hd : D.down = false) {o n : Nat} (h8 : o % 8 = 0) (h : o + 8 * n ≤ D.size) : D.get (o : Int) (n : Int) = (wordsAt D o n, 0) := by
  unfold NM.Dv.get
  rw [if_pos (within_in hp h8 h), if_pos (.inr hd), Int.toNat_natCast, Int.toNat_natCast]

set_option maxRecDepth 20000 in
set_option maxHeartbeats 4000000 in
set_option linter.unusedSimpArgs false in
theorem sureBack_walk (a : Option Addr) (l : List (BitVec 64)) (cap : Nat) (at_ cut : BitVec 8) (w0 : World) (hin : SlIn .u64 w0 a l cap) :
    Ret Try.prog 10 #[.slice a l.length cap, .int .u8 (uv at_), .int .u8 (uv cut)] w0 fun v w' => v = .bool true ∧ Below w0.heap.size w0 w' := by
  have bel0 := Below.refl w0.heap.size w0
  have hmax := hin.max
  have hle := hin.le
  obtain ⟨q, hq, hq8⟩ : ∃ q : Nat, (uv at_).tmod 20 = (q : Int) ∧ q < 20 := ⟨at_.toNat % 20, by rw [Int.tmod_eq_emod_of_nonneg (uv_nonneg at_), uv_def]; rfl, Nat.mod_lt _ (by decide)⟩
  have ha0 := uv_nonneg at_
  have ha1 := uv_lt at_
  have hwa := IntWalk.i64_in (uv at_) (by omega)
  have hc0 := uv_nonneg cut
  have hc1 := uv_lt cut
  have hwc := IntWalk.i64_in (uv cut) (by omega)
  refine ret_of (args := [_, _, _]) _ Try.func10 rfl Try.ntmps10 (by simp) ?_
  simp -implicitDefEqProofs [go_sem]
  refine callE_of (alive4_calls w0) ?_
  rintro v w1 ⟨rfl, b1⟩
  have bel1 := bel0.trans (b1.mono bel0.size)
  replace hin := hin.next b1
  by_cases h40 : 40 < l.length
  · have h40' : (40 : Int) < l.length := by omega
    simp -implicitDefEqProofs [go_sem, h40, h40']
    refine body_tmp 6 rfl ?_
    simp -implicitDefEqProofs [go_sem]
    exact bel1
  have h40' : ¬ (40 : Int) < l.length := by omega
  simp -implicitDefEqProofs [go_sem, h40, h40']
  refine callE_of (newB 8 w1 (i64_lit 8 (by decide))) ?_
  rintro v w2 ⟨b2, ⟨h, _⟩ | ⟨_, p, F2, rfl, h2, hF2⟩⟩
  · exact absurd ⟨by omega, by omega⟩ h
  have h2 : DevB w2 p F2 (NM.dev0 8) := h2
  have bel2 := bel1.trans (b2.mono bel1.size)
  have hs2 : St w1 w2 p F2 (NM.dev0 8) := ⟨h2, b2, hF2⟩
  have hw1 := IntWalk.i64_in (8 * (q : Int)) (by omega)
  have hsz : (NM.dev0 8).size = 512 := rfl
  have hpos : 0 < (NM.dev0 8).ls.length := by decide
  have hwi : (NM.dev0 8).within ((8 * q : Nat) : Int) l.length = 0 := within_in hpos (by omega) (by omega)
  have hpa : (NM.dev0 8).putAll (8 * (q : Int)) l = runS (NM.dev0 8) (putAllS (8 * q) l) := by
    have e : (8 * (q : Int)) = ((8 * q : Nat) : Int) := by omega
    rw [e]
    unfold NM.Dv.putAll; rw [if_pos hwi, Int.toNat_natCast]
  have hup := runS_upUp (NM.dev0_up 8) hpos (putAllS (8 * q) l) (putAllS_in (N := 8) (by omega) (by omega))
  have hwords := fun x h1 h2 => putAll_words (D := NM.dev0 8) (NM.dev0_ok 8 (by omega)) hpos (o := 8 * q) (l := l) (by omega) (by omega) hup.1 (x := x) h1 h2
  have hlenD := runS_len (NM.dev0 8) (putAllS (8 * q) l)
  simp -implicitDefEqProofs [go_sem, hwa, hq, hw1]
  refine callE_of (putAll_calls (8 * (q : Int)) a l cap w2 hs2.dev (hin.next hs2.bel) (by unfold I64; omega) (by decide)) ?_
  rintro v w3 ⟨rfl, F3, h3, t3⟩
  have hs3 := hs2.step h3 t3
  rw [hpa] at hs3 ⊢
  rw [hup.1]
  have hu := hup.2
  generalize (runS (NM.dev0 8) (putAllS (8 * q) l)).1 = D at *
  have hl8 : D.ls.length = 8 := hlenD
  have hsD : D.size = 512 := by unfold NM.Dv.size; rw [hl8]
  obtain ⟨k, hk, hkl⟩ : ∃ k : Nat, (uv cut).tmod ((l.length : Int) + 1) = (k : Int) ∧ k ≤ l.length := ⟨cut.toNat % (l.length + 1), by rw [Int.tmod_eq_emod_of_nonneg (uv_nonneg cut), uv_def]; rfl, by have := Nat.mod_lt cut.toNat (show 0 < l.length + 1 by omega); omega⟩
  have hw2 := IntWalk.i64_in ((l.length : Int) + 1) (by omega)
  have hnz : ¬ (l.length : Int) + 1 = 0 := by omega
  have hwk := IntWalk.i64_in (k : Int) (by omega)
  simp -implicitDefEqProofs [go_sem, hwc, hw2, hk, hnz, hwk]
  refine callE_of (get_calls' (8 * (q : Int)) k w3 hs3.dev (by unfold I64; omega) (by unfold I64; omega)) ?_
  rintro v w4 ⟨b4, a4, c4, rfl, in4, n4⟩
  have g1 : D.get (8 * (q : Int)) (k : Int) = (wordsAt D (8 * q) k, 0) := by
    have e : (8 * (q : Int)) = ((8 * q : Nat) : Int) := by omega
    rw [e]; exact get_in (by omega) hu.down (by omega) (by omega)
  rw [g1] at in4 ⊢
  have hs4 := hs3.next b4
  have hw3 := IntWalk.i64_in (8 * (k : Int)) (by omega)
  have hw4 := IntWalk.i64_in (8 * (q : Int) + 8 * (k : Int)) (by omega)
  have hw5 := IntWalk.i64_in ((l.length : Int) - (k : Int)) (by omega)
  simp -implicitDefEqProofs [go_sem, hw3, hw4, hw5]
  have e5 : ((l.length : Int) - (k : Int)) = ((l.length - k : Nat) : Int) := by omega
  refine callE_of (get_calls' (8 * (q : Int) + 8 * (k : Int)) ((l.length : Int) - (k : Int)) w4 hs4.dev (by unfold I64; omega) (by unfold I64; omega)) ?_
  rintro v w5 ⟨b5, a5, c5, rfl, in5, n5⟩
  have g2 : D.get (8 * (q : Int) + 8 * (k : Int)) ((l.length : Int) - (k : Int)) = (wordsAt D (8 * q + 8 * k) (l.length - k), 0) := by
    have e : (8 * (q : Int) + 8 * (k : Int)) = ((8 * q + 8 * k : Nat) : Int) := by omega
    rw [e, e5]; exact get_in (by omega) hu.down (by omega) (by omega)
  rw [g2] at in5 ⊢
  simp only [wordsAt_len]
  have hs5 := hs4.next b5
  replace in4 := in4.next b5
  obtain ⟨a6, c6, w6, hr6, hown6, hg6⟩ := run_append1 (P := Try.prog) (w := w5) w5.heap.size (t := 73) 73 Try.underlying73 info_u64 rfl (World.ownsRow_nil _ _ _ _) (a2 := a4) (m := k) (c2 := c4) (news := cellsK .u64 (wordsAt D (8 * q) k)) (by rw [cellsK_length, wordsAt_len]) in4.at_.src in4.nil (fun u hu => cellsK_one u hu) (by omega) (by omega) (Nat.le_refl _)
  rw [Nat.zero_add] at hr6 hown6
  have b6 : Below w5.heap.size w5 w6 := (Below.refl _ _).grown hg6 (Nat.le_refl _) (fun j hj => by simp [Value.ownBlock] at hj)
  replace in5 := in5.next b6
  obtain ⟨a7, c7, w7, hr7, hown7, hg7⟩ := run_append1 (P := Try.prog) (w := w6) w5.heap.size (t := 73) 73 Try.underlying73 info_u64 rfl hown6 (a2 := a5) (m := l.length - k) (c2 := c5) (news := cellsK .u64 (wordsAt D (8 * q + 8 * k) (l.length - k))) (by rw [cellsK_length, wordsAt_len]) in5.at_.src in5.nil (fun u hu => cellsK_one u hu) (by omega) (by omega) b6.size
  have b7 : Below w5.heap.size w5 w7 := b6.grown hg7 b6.size (fun j hj => (hown6.lt j hj).1)
  have hlist : wordsAt D (8 * q) k ++ wordsAt D (8 * q + 8 * k) (l.length - k) = l := by
    apply List.ext_getElem (by simp [wordsAt_len]; omega)
    intro i h1 h2
    have hi : (wordsAt D (8 * q) k ++ wordsAt D (8 * q + 8 * k) (l.length - k))[i] = D.word (8 * q + 8 * i) := by
      by_cases hik : i < k
      · rw [List.getElem_append_left (by rw [wordsAt_len]; exact hik)]; simp [wordsAt]
      · rw [List.getElem_append_right (by rw [wordsAt_len]; omega)]
        simp only [wordsAt, List.getElem_map, List.getElem_range, List.length_map, List.length_range]
        congr 1; omega
    rw [hi, hwords _ (by omega) (by omega), if_pos (by omega), show (8 * q + 8 * i - 8 * q) / 8 = i by omega]
    simp [List.getD, h2]
  rw [List.nil_append, ← cellsK_append, hlist, show k + (l.length - k) = l.length by omega] at hown7
  rw [show k + (l.length - k) = l.length by omega] at hr7
  have in7 := owns_slIn rfl hown7
  have k7 : ((l.length : Int) - (k : Int)).toNat = l.length - k := by omega
  simp -implicitDefEqProofs [go_sem, hr6, hr7]
  have hin7 := hin.next ((hs5.bel).trans (b7.mono (hs5.bel.size)))
  refine wpE_loop (fun e' w' => ∃ i : Nat, i ≤ l.length ∧ e' 0 = .slice a l.length cap ∧ e' 14 = .slice a7 l.length c7 ∧ e' 77 = .int .i64 l.length ∧ e' 78 = .int .i64 (i : Int) ∧ Below w7.heap.size w7 w') (fun e' _ => l.length - (intOf (e' 78)).toNat) ?_ ?_
  · refine ⟨0, by omega, ?_⟩
    simp -implicitDefEqProofs [go_sem]
    exact Below.refl _ _
  · rintro e' w8 ⟨i, hi, g0, g14, g77, g78, b8⟩
    by_cases hlt : i < l.length
    · have hlt' : (i : Int) < l.length := by omega
      have hwi := IntWalk.i64_in ((i : Int) + 1) (by omega)
      obtain ⟨ba, oa, rfl, hca⟩ := (hin7.next b8).at_.cell hlt
      obtain ⟨bz, oz, rfl, hcz⟩ := (in7.next b8).at_.cell hlt
      simp -implicitDefEqProofs [go_sem, g0, g14, g77, g78, hlt, hlt']
      refine drawE_still mixed (by decide +kernel) ?_
      simp -implicitDefEqProofs [go_sem, g0, g14, g77, g78, hlt, hlt', hca, hcz]
      unfold endE
      simp -implicitDefEqProofs [go_sem, g0, g14, g77, g78, hwi]
      refine goE_round ⟨i + 1, by omega, ?_⟩ ?_
      · simp -implicitDefEqProofs [go_sem, g0, g14, g77]; exact b8.drew
      · simp -implicitDefEqProofs [go_sem, intOf, g78, hwi]; omega
    · have hi' : i = l.length := by omega
      subst hi'
      simp -implicitDefEqProofs [go_sem, g0, g14, g77, g78]
      refine body_tmp 6 rfl ?_
      simp -implicitDefEqProofs [go_sem]
      exact bel1.trans ((hs5.bel.trans (b7.mono hs5.bel.size)).mono bel1.size |>.trans (b8.mono (by have := b7.size; have := hs5.bel.size; have := bel1.size; omega)))
end Go.Proofs.Ytkljlgahdlgmpaa
