/- HeadTorn: its walk. -/
import Derived.Test.YtfppphmlepdopaaDoorHeadLaw3
namespace Go.Proofs.YtfppphmlepdopaaDoor
set_option linter.unusedVariables false
set_option linter.unusedSimpArgs false
open Go Go.RowKit

section
set_option linter.unusedSimpArgs false
set_option maxHeartbeats 4000000 in
theorem headTorn_walk (x : BitVec 8) (y : BitVec 16) (a : Option Addr) (ps : List (BitVec 8)) (c : Nat) (w0 : World) (hF : Fours w0) (hin : SlIn .u8 w0 a ps c) :
    Ret Tryd.prog 10 #[.int .u8 (uv x), .int .u16 (uv y), .slice a ps.length c] w0 fun v w' => v = .bool true ∧ Below w0.heap.size w0 w' := by
  have bel0 := Below.refl w0.heap.size w0
  have hst : Tryd.prog.underlying 25 = _ := Tryd.underlying25
  obtain ⟨n, hn, hlt⟩ := umod_nat8 x 60#8 (by decide)
  replace hlt : n < 60 := hlt
  obtain ⟨m, hm, hlm⟩ := umod_nat y 1200#16 (by decide)
  replace hlm : m < 1200 := hlm
  have hW := hF
  refine ret_of (args := [_, _, _]) _ Tryd.func10 rfl Tryd.ntmps10 (by simp) ?_
  simp -implicitDefEqProofs [go_sem]
  refine callE_of (alive_calls w0 hF) ?_
  rintro v w1 ⟨rfl, b1⟩
  have bel1 := bel0.trans (b1.mono bel0.size)
  by_cases hbig : (300 : Int) < ps.length
  · simp -implicitDefEqProofs [go_sem, hbig]
    refine body_tmp 6 rfl ?_
    simp -implicitDefEqProofs [go_sem]
    exact bel1
  have hwn := IntWalk.i64_in (n : Int) (by omega)
  have hwn1 := IntWalk.i64_in ((n : Int) + 19) (by omega)
  simp -implicitDefEqProofs [go_sem, hbig, hn, hwn, hwn1]
  have e19 : ((n : Int) + 19).toNat = n + 19 := by omega
  refine callE_of (newB ((n : Int) + 19) w1 (by unfold I64; omega)) ?_
  rintro v w2 ⟨b2, ⟨hno, rfl⟩ | ⟨_, p, F2, rfl, h2, hg2⟩⟩
  · omega
  rw [e19] at h2
  have bel2 := bel1.trans (b2.mono bel1.size)
  have hS2 : St w0 w2 p F2 (NM.dev0 (n + 19)) := ⟨h2, bel2, fun k hk => by have := hg2 k hk; have := bel1.size; omega⟩
  have hwm := IntWalk.i64_in (m : Int) (by omega)
  simp -implicitDefEqProofs [go_sem, hm, hwm]
  refine callE_of (stopB (m : Int) w2 hS2.dev (by omega)) ?_
  rintro v w3 ⟨rfl, F3, h3, t3⟩
  have hS3 := hS2.step h3 t3
  have hD3len : ((NM.dev0 (n + 19)).stop m).ls.length = n + 19 := by
    have e : ((NM.dev0 (n + 19)).stop m).ls = (NM.dev0 (n + 19)).ls := by unfold NM.Dv.stop; split <;> rfl
    rw [e, dev0_len]
  have hD3st : ((NM.dev0 (n + 19)).stop m).steps = 0 := by unfold NM.Dv.stop; split <;> rfl
  have hD3ln : ∀ i, ((NM.dev0 (n + 19)).stop m).ln i = (NM.dev0 (n + 19)).ln i := fun i => by
    have e : ((NM.dev0 (n + 19)).stop m).ls = (NM.dev0 (n + 19)).ls := by unfold NM.Dv.stop; split <;> rfl
    unfold NM.Dv.ln; rw [e]
  generalize (NM.dev0 (n + 19)).stop m = D at *
  have hTI : NM.TI (HM.words (HM.of D.ls.length).1) D.ls.length D := by
    have h := NM.ti_dev0 (HM.words (HM.of D.ls.length).1) (n + 19) (by omega)
    exact ⟨rfl, hS3.dev.ok, fun i hi => by rw [hD3ln]; exact h.2.2 i (by omega)⟩
  have hTF := NM.ti_format (by omega) hTI
  have hfo := fun he => NM.format_ok (D := D) hS3.dev.ok (by omega) he ps
  have hfl := NM.format_len D
  have hfs := NM.format_steps (D := D) (by omega)
  simp -implicitDefEqProofs [go_sem]
  refine callE_of (format_calls w3 hS3 hW (by omega)) ?_
  rintro v w4 ⟨rfl, F4, h4, t4⟩
  have hS4 := hS3.step h4 t4
  have bel4 := hS4.bel
  have hF4 := hW.below bel4
  obtain ⟨E, hE⟩ : ∃ E, E = D.format.1 := ⟨_, rfl⟩
  obtain ⟨e, he⟩ : ∃ e, e = D.format.2.2 := ⟨_, rfl⟩
  obtain ⟨sh, hsh⟩ : ∃ sh, sh = D.format.2.1 := ⟨_, rfl⟩
  rw [← hE] at hS4 hTF hfo hfl hfs
  rw [← he] at hfo
  rw [← he, ← hsh]
  simp -implicitDefEqProofs [go_sem, ↓stShape sh]
  generalize hw5 : World.alloc w4 _ = w5 at *
  obtain ⟨hB5, b5, sz5⟩ := new_facts hw5
  have bel5 := bel4.trans (b5.mono bel4.size)
  replace hS4 := hS4.next b5
  have hin5 : SlIn .u8 w5 a ps c := hin.below bel5
  have hnF : ps ≠ [] → ∀ y, a = some y → ¬ F4 y.block := sepIn hin (fun k hk => hS4.ge k hk)
  refine callE_of (crashB a c ps w5 hS4.dev hin5 hnF (by omega)) ?_
  rintro v w6 ⟨rfl, F6, h6, t6⟩
  have hS6 := hS4.step h6 t6
  have hGl : (E.crash ps).ls.length = n + 19 := by rw [NM.crash_len, hfl, hD3len]
  have hGu := NM.Dv.Up.crash (D := E) (by omega) ps
  have hGw := fun x h8 hx => NM.ti_crash hTF ps (x := x) h8 hx
  have hG2 := NM.open_up (D := E.crash ps) (by omega) hGu.down
  rw [hGl] at hG2
  rw [hD3len] at hfo hGw
  generalize E.crash ps = G at *
  have hF6 := hW.below hS6.bel
  simp -implicitDefEqProofs [go_sem]
  refine callE_of (openH_calls w6 hS6.dev hF6) ?_
  rintro v w7 ⟨rfl, b7⟩
  have hS7 := hS6.next b7
  have bel7 := hS7.bel
  have hofn := (HM.of_nat (n := n + 19) (by omega) (by omega)).1
  have hcase : (G.openH = ((HM.of ((n + 19 : Nat) : Int)).1, 0)) ∨ (G.openH = (HM.none4, 5) ∧ e ≠ 0) := by
    by_cases h : wordsAt G 0 8 = HM.words (HM.of ((n + 19 : Nat) : Int)).1
    · left; rw [hG2, if_pos ⟨hofn, h⟩]
    · right
      refine ⟨by rw [hG2, if_neg (fun x => h x.2)], fun he0 => ?_⟩
      have := hfo he0
      rw [hG2, if_neg (fun x => h x.2)] at this
      have h5 : (5 : Int) = 0 := congrArg Prod.snd this
      exact absurd h5 (by decide)
  have hzero : ∀ j, 64 ≤ j → j < G.size → G.image.getD j 0#8 = 0#8 := fun j h1 h2 => by
    rw [NM.image_byte hS7.dev.ok h2]
    have h3 : G.word (8 * (j / 8)) = 0#64 := by
      rcases hGw (8 * (j / 8)) (by omega) (by unfold NM.Dv.size at h2; omega) with h | ⟨h, _⟩
      · exact h
      · omega
    rw [h3]
    unfold WM.byteOf; simp
  simp -implicitDefEqProofs [go_sem, ↓stShape G.openH.1]
  generalize hw8 : World.alloc w7 _ = w8 at *
  obtain ⟨hB8, b8, sz8⟩ := new_facts hw8
  have bel8 := bel7.trans (b8.mono bel7.size)
  replace hS7 := hS7.next b8
  refine callE_of (imageB w8 hS7.dev) ?_
  rintro v w9 ⟨a9, c9, rfl, in9, b9, n9⟩
  have bel9 := bel8.trans (b9.mono bel8.size)
  replace hS7 := hS7.next b9
  replace hB8 := hB8.next b9
  have hlen9 : G.image.length = G.size := NM.image_len hS7.dev.ok
  have hsz : G.size = 64 * (n + 19) := by unfold NM.Dv.size; rw [hGl]
  obtain ⟨N, hN⟩ : ∃ N, N = G.size := ⟨_, rfl⟩
  rw [← hN] at hlen9 hsz hzero ⊢
  simp -implicitDefEqProofs [go_sem]
  refine wpE_loop (fun e' w' => ∃ k : Nat, 64 ≤ k ∧ k ≤ N ∧ e' 7 = .int .i64 ((n : Int) + 19) ∧ e' 10 = .int .i64 e ∧ e' 11 = .pointer (some ⟨w7.heap.size, 0, none⟩) ∧ e' 12 = .int .i64 G.openH.2 ∧ e' 13 = .slice a9 N c9 ∧ e' 14 = .int .i64 k ∧ w' = w9) (fun e' _ => N - (intOf (e' 14)).toNat) ?_ ?_
  · refine ⟨64, by omega, by omega, ?_⟩
    simp -implicitDefEqProofs [go_sem]
  · rintro e' w' ⟨k, hk0, hk, g7, g10, g11, g12, g13, g14, rfl⟩
    by_cases hlt : k < N
    · have hlt' : (k : Int) < N := by omega
      have hwk := IntWalk.i64_in ((k : Int) + 1) (by omega)
      obtain ⟨bb, oo, rfl, gc⟩ := in9.at_.cellD (i := k) (by omega)
      rw [hzero k (by omega) hlt] at gc
      have u0 : uv 0#8 = 0 := rfl
      rw [u0] at gc
      simp -implicitDefEqProofs [go_sem, g7, g10, g11, g12, g13, g14, hlt, hlt', gc, hwk]
      refine goE_round ⟨k + 1, by omega, by omega, ?_⟩ ?_
      · simp -implicitDefEqProofs [go_sem, g7, g10, g11, g12, g13]
      · simp -implicitDefEqProofs [go_sem, intOf, g14]; omega
    · have hlt' : ¬ (k : Int) < N := by omega
      simp -implicitDefEqProofs [go_sem, g7, g10, g11, g12, g13, g14, hlt, hlt']
      refine callE_of (headOf_calls ((n : Int) + 19) w' (by unfold I64; omega)) ?_
      rintro v w10 ⟨rfl, b10⟩
      have bel10 := bel9.trans (b10.mono bel9.size)
      replace hB8 := hB8.next b10
      have e19' : ((n + 19 : Nat) : Int) = (n : Int) + 19 := by omega
      rw [e19'] at hcase
      simp -implicitDefEqProofs [go_sem, ↓stShape (HM.of ((n : Int) + 19)).1]
      generalize hw11 : World.alloc w10 _ = w11 at *
      obtain ⟨hB11, b11, sz11⟩ := new_facts hw11
      have bel11 := bel10.trans (b11.mono bel10.size)
      replace hB8 := hB8.next b11
      have hld2 := ldAll (P := Tryd.prog) (ty := 25) (n := 4) hB11 hst rfl shapeI4 rfl
      rcases hcase with hc | ⟨hc, he0⟩
      · rw [hc] at hB8 g12
        have hld1 := ldAll (P := Tryd.prog) (ty := 25) (n := 4) hB8 hst rfl shapeI4 rfl
        by_cases he0 : e = 0
        · simp -implicitDefEqProofs [go_sem, g7, g10, g11, g12, g13, g14, he0, shapeC_0, shapeC_1, shapeC_2, shapeC_3, HM.none4, ↓hld1, ↓hld2]
          refine body_tmp 6 rfl ?_
          simp -implicitDefEqProofs [go_sem]
          exact bel11
        · have he0' : (e != 0) = true := by rw [bne_iff_ne]; exact he0
          simp -implicitDefEqProofs [go_sem, g7, g10, g11, g12, g13, g14, he0, he0', shapeC_0, shapeC_1, shapeC_2, shapeC_3, HM.none4, ↓hld1, ↓hld2]
          refine body_tmp 6 rfl ?_
          simp -implicitDefEqProofs [go_sem]
          exact bel11
      · rw [hc] at hB8 g12
        have hld1 := ldAll (P := Tryd.prog) (ty := 25) (n := 4) hB8 hst rfl shapeI4 rfl
        have he0' : (e != 0) = true := by rw [bne_iff_ne]; exact he0
        simp -implicitDefEqProofs [go_sem, g7, g10, g11, g12, g13, g14, he0, he0', shapeC_0, shapeC_1, shapeC_2, shapeC_3, HM.none4, ↓hld1, ↓hld2]
        refine body_tmp 6 rfl ?_
        simp -implicitDefEqProofs [go_sem]
        exact bel11
end
end Go.Proofs.YtfppphmlepdopaaDoor
