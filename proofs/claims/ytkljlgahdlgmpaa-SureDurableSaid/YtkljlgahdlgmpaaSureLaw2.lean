/- SureDurable: its walk. -/
import Derived.Test.YtkljlgahdlgmpaaSureLaw1
import Derived.Test.YtkljlgahdlgmpaaNvmLaw3
namespace Go.Proofs.Ytkljlgahdlgmpaa
open Go Go.RowKit

namespace NM
open Go.Proofs.Ytkljlgahdlgmpaa.WM (getM putM putM_length putM_getD hasB get_put byteOf byteOf_wd wd)
/-- A word is nothing, or what was to be put there. -/
def PutQ (o : Nat) (l : List (BitVec 64)) (i : Nat) (b : List (BitVec 8)) : Prop := b.length = 64 ∧ ∀ r, r < 8 → getM b (8 * r) = 0#64 ∨ ∃ j, j < l.length ∧ 64 * i + 8 * r = o + 8 * j ∧ getM b (8 * r) = l.getD j 0#64
theorem getM_zeros (p : Nat) : getM zeros p = 0#64 := by
  unfold getM
  have : (fun i => zeros.getD (p + i) 0#8) = fun _ => 0#8 := by
    funext i; unfold zeros
    rw [List.getD_eq_getElem?_getD, List.getElem?_replicate]; split <;> rfl
  rw [this]; decide +kernel
theorem putQ_zeros (o : Nat) (l : List (BitVec 64)) (i : Nat) : PutQ o l i zeros := ⟨by simp [zeros], fun r _ => .inl (getM_zeros _)⟩
theorem putQ_put {o : Nat} {l : List (BitVec 64)} {k : Nat} (h8 : o % 8 = 0) (hk : k < l.length) {b : List (BitVec 8)} (h : PutQ o l ((o + 8 * k) / 64) b) : PutQ o l ((o + 8 * k) / 64) (putM b ((o + 8 * k) % 64) (l.getD k 0#64)) := by
  refine ⟨by rw [putM_length]; exact h.1, fun r hr => ?_⟩
  obtain ⟨q, hq⟩ : ∃ q, (o + 8 * k) % 64 = 8 * q := ⟨(o + 8 * k) % 64 / 8, by omega⟩
  rw [hq, get_put _ q r _ (by rw [h.1]; omega)]
  by_cases e : q = r
  · rw [if_pos e]
    exact .inr ⟨k, hk, by omega, rfl⟩
  · rw [if_neg e]; exact h.2 r hr
def PutI (o : Nat) (l : List (BitVec 64)) (E : Dv) : Prop := E.ls.length = 8 ∧ E.Ok ∧ ∀ i, i < 8 → AllC (PutQ o l i) (E.ln i)
theorem putI_step {o : Nat} {l : List (BitVec 64)} (h8 : o % 8 = 0) (h : o + 8 * l.length ≤ 512) : ∀ s ∈ putAllS o l, ∀ E, PutI o l E → PutI o l (E.step s).1 := by
  intro s hs E ⟨hl, hok, hq⟩
  refine ⟨by rw [step_len, hl], step_ok hok s, fun i hi => ?_⟩
  unfold putAllS at hs
  rcases List.mem_append.1 hs with hs | hs
  · obtain ⟨k, hk, rfl⟩ := List.mem_map.1 hs
    have hk' := List.mem_range.1 hk
    refine AllC.storeLn hok (by omega) _ _ (hq i hi) ?_
    by_cases ha : E.ask ((o + 8 * k : Nat) : Int) 8 = 0
    · rw [store_now hok _ ha (by omega) (by unfold Dv.size; omega)]
      by_cases e : i = (o + 8 * k) / 64
      · subst e; rw [if_pos rfl]; exact putQ_put h8 hk' (hq _ hi).now
      · rw [if_neg e]; exact (hq i hi).now
    · rw [store_fail _ _ ha]; exact (hq i hi).now
  · rcases List.mem_append.1 hs with hs | hs
    · obtain ⟨k, _, rfl⟩ := List.mem_map.1 hs
      exact AllC.flushLn (by omega) _ (hq i hi)
    · rw [List.mem_singleton.1 hs]
      exact AllC.fenceLn (by omega) (hq i hi)
theorem putI_word {o : Nat} {l : List (BitVec 64)} {E : Dv} (h : PutI o l E) (h8 : o % 8 = 0) (h5 : o + 8 * l.length ≤ 512) (ps : List (BitVec 8)) {j : Nat} (hj : j < l.length) : (E.crash ps).word (o + 8 * j) = 0#64 ∨ (E.crash ps).word (o + 8 * j) = l.getD j 0#64 := by
  obtain ⟨k, hk, hc⟩ := crash_ln (D := E) ps (i := (o + 8 * j) / 64) (by have := h.1; omega)
  have hq := (h.2.2 ((o + 8 * j) / 64) (by omega)).crash hk
  unfold Dv.word
  rw [hc]
  obtain ⟨r, hr⟩ : ∃ r, (o + 8 * j) % 64 = 8 * r := ⟨(o + 8 * j) % 64 / 8, by omega⟩
  rw [hr]
  rcases hq.2 r (by omega) with h1 | ⟨j', hj', hp, hv⟩
  · exact .inl h1
  · have : j' = j := by omega
    subst this; exact .inr hv
end NM

set_option maxRecDepth 20000 in
set_option maxHeartbeats 4000000 in
set_option linter.unusedSimpArgs false in
theorem sureDurable_walk (a : Option Addr) (l : List (BitVec 64)) (cap : Nat) (at_ after : BitVec 8) (a2 : Option Addr) (ps : List (BitVec 8)) (c2 : Nat) (w0 : World) (hin : SlIn .u64 w0 a l cap) (hps : SlIn .u8 w0 a2 ps c2) :
    Ret Try.prog 11 #[.slice a l.length cap, .agg #[.int .u8 (uv at_), .int .u8 (uv after)], .slice a2 ps.length c2] w0 fun v w' => v = .bool true ∧ Below w0.heap.size w0 w' := by
  have bel0 := Below.refl w0.heap.size w0
  have hmax := hin.max
  have hle := hin.le
  obtain ⟨q, hq, hq8⟩ : ∃ q : Nat, (uv at_).tmod 20 = (q : Int) ∧ q < 20 := ⟨at_.toNat % 20, by rw [Int.tmod_eq_emod_of_nonneg (uv_nonneg at_), uv_def]; rfl, Nat.mod_lt _ (by decide)⟩
  have ha0 := uv_nonneg at_
  have ha1 := uv_lt at_
  have hwa := IntWalk.i64_in (uv at_) (by omega)
  have hc0 := uv_nonneg after
  have hc1 := uv_lt after
  have hwc := IntWalk.i64_in (uv after) (by omega)
  refine ret_of (args := [_, _, _]) _ Try.func11 rfl Try.ntmps11 (by simp) ?_
  simp -implicitDefEqProofs [go_sem]
  generalize hw1 : World.alloc w0 _ = w1 at *
  obtain ⟨hB1, b1, sz1⟩ := new_facts hw1
  have bel1 := bel0.trans (b1.mono bel0.size)
  replace hin := hin.next b1
  replace hps := hps.next b1
  refine callE_of (alive4_calls w1) ?_
  rintro v w2 ⟨rfl, b2⟩
  have bel2 := bel1.trans (b2.mono bel1.size)
  replace hB1 := hB1.next b2
  replace hin := hin.next b2
  replace hps := hps.next b2
  simp -implicitDefEqProofs [go_sem]
  refine drawE_still mixed (by decide +kernel) ?_
  simp -implicitDefEqProofs [go_sem, hB1.cell]
  unfold endE
  generalize hw3 : World.drew w2 = w3 at *
  have bel3 : Below w0.heap.size w0 w3 := by rw [← hw3]; exact bel2.drew
  replace hin : SlIn .u64 w3 a l cap := by rw [← hw3]; exact hin.next ((Below.refl _ _).drew)
  replace hps : SlIn .u8 w3 a2 ps c2 := by rw [← hw3]; exact hps.next ((Below.refl _ _).drew)
  clear hw3
  by_cases h40 : 40 < l.length
  · have h40' : (40 : Int) < l.length := by omega
    simp -implicitDefEqProofs [go_sem, h40, h40']
    refine body_tmp 6 rfl ?_
    simp -implicitDefEqProofs [go_sem]
    exact bel3
  have h40' : ¬ (40 : Int) < l.length := by omega
  by_cases h100 : 100 < ps.length
  · have h100' : (100 : Int) < ps.length := by omega
    simp -implicitDefEqProofs [go_sem, h40, h40', h100, h100']
    refine body_tmp 6 rfl ?_
    simp -implicitDefEqProofs [go_sem]
    exact bel3
  have h100' : ¬ (100 : Int) < ps.length := by omega
  simp -implicitDefEqProofs [go_sem, h40, h40', h100, h100']
  refine callE_of (newB 8 w3 (i64_lit 8 (by decide))) ?_
  rintro v w4 ⟨b4, ⟨h, _⟩ | ⟨_, p, F4, rfl, h4, hF4⟩⟩
  · exact absurd ⟨by omega, by omega⟩ h
  have h4 : DevB w4 p F4 (NM.dev0 8) := h4
  have hs4 : St w3 w4 p F4 (NM.dev0 8) := ⟨h4, b4, hF4⟩
  have hw1 := IntWalk.i64_in (8 * (q : Int)) (by omega)
  simp -implicitDefEqProofs [go_sem, hwa, hq, hw1, hwc]
  refine callE_of (stopB (uv after) w4 hs4.dev (by omega)) ?_
  rintro v w5 ⟨rfl, F5, h5, t5⟩
  have hs5 := hs4.step h5 t5
  obtain ⟨D1, hD1⟩ : ∃ D1, D1 = (NM.dev0 8).stop (uv after) := ⟨_, rfl⟩
  rw [← hD1] at hs5
  have hl1 : D1.ls.length = 8 := by rw [hD1, NM.stop_len]; rfl
  have hsz : D1.size = 512 := by unfold NM.Dv.size; rw [hl1]
  have hst1 : D1.steps = 0 := by rw [hD1]; unfold NM.Dv.stop; split <;> rfl
  have hI1 : NM.PutI (8 * q) l D1 := by
    refine ⟨hl1, hs5.dev.ok, fun i hi => ?_⟩
    have e0 : ((NM.dev0 8).stop (uv after)).ls = (NM.dev0 8).ls := by unfold NM.Dv.stop; split <;> rfl
    have e : D1.ln i = NM.line0 := by
      rw [hD1]
      have : ((NM.dev0 8).stop (uv after)).ln i = (NM.dev0 8).ln i := by unfold NM.Dv.ln; rw [e0]
      rw [this, dev0_ln 8 i hi]
    rw [e]
    exact NM.allC_one (NM.putQ_zeros _ _ _) rfl
  clear hD1
  have hwi : D1.within ((8 * q : Nat) : Int) l.length = 0 := within_in (by omega) (by omega) (by omega)
  have hpa : D1.putAll (8 * (q : Int)) l = runS D1 (putAllS (8 * q) l) := by
    have e : (8 * (q : Int)) = ((8 * q : Nat) : Int) := by omega
    rw [e]
    unfold NM.Dv.putAll; rw [if_pos hwi, Int.toNat_natCast]
  have hI2 := runS_inv (I := NM.PutI (8 * q) l) (putAllS (8 * q) l) (NM.putI_step (by omega) (by omega)) hI1
  have herr := runS_err2 (D := D1) (by omega) (putAllS (8 * q) l) (by rw [hl1]; exact putAllS_in (by omega) (by omega))
  have hone := fun he j hj => putAll_one (D := D1) (by omega) (o := 8 * q) (l := l) (by omega) (by omega) he (j := j) hj
  have hwords := fun he x h1 h2 => putAll_words (D := D1) hI1.2.1 (by omega) (o := 8 * q) (l := l) (by omega) (by omega) he (x := x) h1 h2
  have hsteps := runS_steps D1 (putAllS (8 * q) l)
  have hlenS : (putAllS (8 * q) l).length ≤ 100000 := by
    have : linesOf (8 * q) l.length ≤ 2000 := by unfold linesOf; split <;> omega
    simp only [putAllS, List.length_append, storesS_len, flushesS_len, List.length_singleton]; omega
  simp -implicitDefEqProofs [go_sem]
  refine callE_of (putAll_calls (8 * (q : Int)) a l cap w5 hs5.dev (hin.next hs5.bel) (by unfold I64; omega) (by omega)) ?_
  rintro v w6 ⟨rfl, F6, h6, t6⟩
  have hs6 := hs5.step h6 t6
  rw [hpa] at hs6 ⊢
  generalize hr : runS D1 (putAllS (8 * q) l) = r at *
  obtain ⟨D, e⟩ := r
  simp only at *
  have hl8 := hI2.1
  have hsD : D.size = 512 := by unfold NM.Dv.size; rw [hl8]
  simp -implicitDefEqProofs [go_sem]
  refine callE_of (crashB a2 c2 ps w6 hs6.dev (hps.next hs6.bel) (sepIn hps hs6.ge) (by omega)) ?_
  rintro v w7 ⟨rfl, F7, h7, t7⟩
  have hs7 := hs6.step h7 t7
  have hupc := NM.Dv.Up.crash (D := D) (by omega) ps
  have hlc : (D.crash ps).ls.length = 8 := by rw [NM.crash_len, hl8]
  have hszc : (D.crash ps).size = 512 := by unfold NM.Dv.size; rw [hlc]
  have g1 : (D.crash ps).get (8 * (q : Int)) (l.length : Int) = (wordsAt (D.crash ps) (8 * q) l.length, 0) := by
    have e : (8 * (q : Int)) = ((8 * q : Nat) : Int) := by omega
    rw [e]; exact get_in (by omega) hupc.down (by omega) (by omega)
  have hw0 := fun j hj => NM.putI_word hI2 (by omega) (by omega) ps (j := j) hj
  have hwe : e = 0 → ∀ j, j < l.length → (D.crash ps).word (8 * q + 8 * j) = l.getD j 0#64 := by
    intro he j hj
    have h1 := hone he j hj
    have h2 := NM.crash_same (D := D) ps (i := (8 * q + 8 * j) / 64) (by omega) h1
    have h3 : (D.crash ps).word (8 * q + 8 * j) = D.word (8 * q + 8 * j) := by unfold NM.Dv.word; rw [h2]
    rw [h3, hwords he _ (by omega) (by omega), if_pos (by omega), show (8 * q + 8 * j - 8 * q) / 8 = j by omega]
  simp -implicitDefEqProofs [go_sem]
  refine callE_of (get_calls' (8 * (q : Int)) l.length w7 hs7.dev (by unfold I64; omega) (by unfold I64; omega)) ?_
  rintro v w8 ⟨b8, a8, c8, rfl, in8, n8⟩
  rw [g1] at in8 ⊢
  simp only [wordsAt_len]
  have hs8 := hs7.next b8
  have hin8 := hin.next hs8.bel
  simp -implicitDefEqProofs [go_sem]
  refine wpE_loop (fun e' w' => ∃ i : Nat, i ≤ l.length ∧ e' 0 = .slice a l.length cap ∧ e' 11 = .int .i64 e ∧ e' 12 = .slice a8 l.length c8 ∧ e' 65 = .int .i64 l.length ∧ e' 66 = .int .i64 (i : Int) ∧ Below w8.heap.size w8 w') (fun e' _ => l.length - (intOf (e' 66)).toNat) ?_ ?_
  · refine ⟨0, by omega, ?_⟩
    simp -implicitDefEqProofs [go_sem]
    exact Below.refl _ _
  · rintro e' w9 ⟨i, hi, g0, g11, g12, g65, g66, b9⟩
    by_cases hlt : i < l.length
    · have hlt' : (i : Int) < l.length := by omega
      have hwi := IntWalk.i64_in ((i : Int) + 1) (by omega)
      obtain ⟨ba, oa, rfl, hca⟩ := (hin8.next b9).at_.cell hlt
      obtain ⟨bz, oz, rfl, hcz⟩ := (in8.next b9).at_.cell (i := i) (by rw [wordsAt_len]; exact hlt)
      have hx : (wordsAt (D.crash ps) (8 * q) l.length)[i]'(by rw [wordsAt_len]; exact hlt) = (D.crash ps).word (8 * q + 8 * i) := by simp [wordsAt]
      rw [hx] at hcz
      have hgd : l.getD i 0#64 = l[i] := by simp [List.getD, hlt]
      have hx0 := hw0 i hlt
      have hxe : e = 0 → (D.crash ps).word (8 * q + 8 * i) = l[i] := fun he => by rw [hwe he i hlt, hgd]
      rw [hgd] at hx0
      generalize (D.crash ps).word (8 * q + 8 * i) = x at *
      generalize l[i] = y at *
      simp -implicitDefEqProofs [go_sem, g0, g11, g12, g65, g66, hlt, hlt']
      refine drawE_still mixed (by decide +kernel) ?_
      by_cases he : e = 0
      · obtain rfl := hxe he
        simp -implicitDefEqProofs [go_sem, g0, g11, g12, g65, g66, hlt, hlt', hca, hcz, he]
        unfold endE
        simp -implicitDefEqProofs [go_sem, g0, g11, g12, g65, g66, hwi]
        refine goE_round ⟨i + 1, by omega, ?_⟩ ?_
        · simp -implicitDefEqProofs [go_sem, g0, g11, g12, g65]; exact b9.drew
        · simp -implicitDefEqProofs [go_sem, intOf, g66, hwi]; omega
      · have he' : (e == 0) = false := by rw [beq_eq_false_iff_ne]; exact he
        by_cases hxy : x = y
        · subst hxy
          simp -implicitDefEqProofs [go_sem, g0, g11, g12, g65, g66, hlt, hlt', hca, hcz, he, he']
          unfold endE
          simp -implicitDefEqProofs [go_sem, g0, g11, g12, g65, g66, hwi]
          refine goE_round ⟨i + 1, by omega, ?_⟩ ?_
          · simp -implicitDefEqProofs [go_sem, g0, g11, g12, g65]; exact b9.drew
          · simp -implicitDefEqProofs [go_sem, intOf, g66, hwi]; omega
        · have hx00 : x = 0#64 := by
            rcases hx0 with h | h
            · exact h
            · exact absurd h hxy
          subst hx00
          have hxy1 : (0#64 != y) = true := by rw [bne_iff_ne]; exact hxy
          have hxy2 : (0#64 == y) = false := by rw [beq_eq_false_iff_ne]; exact hxy
          simp -implicitDefEqProofs [go_sem, g0, g11, g12, g65, g66, hlt, hlt', hca, hcz, he, he', hxy1, hxy2]
          unfold endE
          simp -implicitDefEqProofs [go_sem, g0, g11, g12, g65, g66, hwi]
          refine goE_round ⟨i + 1, by omega, ?_⟩ ?_
          · simp -implicitDefEqProofs [go_sem, g0, g11, g12, g65]; exact b9.drew
          · simp -implicitDefEqProofs [go_sem, intOf, g66, hwi]; omega
    · have hi' : i = l.length := by omega
      subst hi'
      have fin : Below w0.heap.size w0 w9 := bel3.trans ((hs8.bel.mono bel3.size).trans (b9.mono (by have := hs8.bel.size; have := bel3.size; omega)))
      rcases herr with he | he
      · simp -implicitDefEqProofs [go_sem, g0, g11, g12, g65, g66, he]
        refine body_tmp 6 rfl ?_
        simp -implicitDefEqProofs [go_sem]
        exact fin
      · simp -implicitDefEqProofs [go_sem, g0, g11, g12, g65, g66, he]
        refine body_tmp 6 rfl ?_
        simp -implicitDefEqProofs [go_sem]
        exact fin
end Go.Proofs.Ytkljlgahdlgmpaa
