/- SureAlone: its walk. -/
import Derived.Test.YtkljlgahdlgmpaaSureLaw2
namespace Go.Proofs.Ytkljlgahdlgmpaa
open Go Go.RowKit

/-- Words stored round and round. -/
def rndS (l : List (BitVec 64)) : Nat → NM.Dv
  | 0 => NM.dev0 8
  | k + 1 => ((rndS l k).store (8 * (k % 60) : Nat) (l.getD k 0#64)).1
theorem rndS_len (l : List (BitVec 64)) : ∀ k, (rndS l k).ls.length = 8
  | 0 => rfl
  | k + 1 => by rw [rndS, NM.store_len, rndS_len l k]
theorem rndS_steps (l : List (BitVec 64)) : ∀ k, (rndS l k).steps ≤ k
  | 0 => Nat.le_refl _
  | k + 1 => by have := store_steps (rndS l k) (8 * (k % 60) : Nat) (l.getD k 0#64); have := rndS_steps l k; rw [rndS]; omega

section
set_option linter.unusedSimpArgs false
set_option maxHeartbeats 4000000 in
set_option maxRecDepth 20000 in
theorem two_calls (a : Option Addr) (l : List (BitVec 64)) (cap : Nat) (after : BitVec 8) (w0 : World) (hin : SlIn .u64 w0 a l cap) (h80 : l.length ≤ 80) :
    Ret Try.prog 41 #[.slice a l.length cap, .int .u8 (uv after)] w0 fun v w' => ∃ p q F G, v = .tuple #[.pointer (some ⟨p, 0, none⟩), .pointer (some ⟨q, 0, none⟩)] ∧ St2 w0 w' p q F G ((rndS l l.length).stop (uv after)) ((rndS l l.length).stop (uv after)) := by
  have bel0 := Below.refl w0.heap.size w0
  have hmax := hin.max
  have hle := hin.le
  have hc0 := uv_nonneg after
  have hc1 := uv_lt after
  have hwc := IntWalk.i64_in (uv after) (by omega)
  refine ret_of (args := [_, _]) _ Try.func41 rfl Try.ntmps41 (by simp) ?_
  simp -implicitDefEqProofs [go_sem]
  refine callE_of (newB 8 w0 (i64_lit 8 (by decide))) ?_
  rintro v w3 ⟨b3, ⟨h, _⟩ | ⟨_, p, F3, rfl, h3, hF3⟩⟩
  · exact absurd ⟨by omega, by omega⟩ h
  simp -implicitDefEqProofs [go_sem]
  refine callE_of (newB 8 w3 (i64_lit 8 (by decide))) ?_
  rintro v w4 ⟨b4, ⟨h, _⟩ | ⟨_, q, G4, rfl, h4, hG4⟩⟩
  · exact absurd ⟨by omega, by omega⟩ h
  have h3 : DevB w3 p F3 (NM.dev0 8) := h3
  have h4 : DevB w4 q G4 (NM.dev0 8) := h4
  have hlt3 := h3.lt
  have b24 : Below w0.heap.size w0 w4 := b3.trans (b4.mono b3.size)
  have hst : St2 w0 w4 p q F3 G4 (NM.dev0 8) (NM.dev0 8) := ⟨⟨h3.next b4, b24, hF3⟩, ⟨h4, b24, fun j hj => by have := hG4 j hj; have := b3.size; omega⟩, fun j hf hg => by have := hlt3 j hf; have := hG4 j hg; omega⟩
  simp -implicitDefEqProofs [go_sem]
  refine wpE_loop (fun e' w' => ∃ (i : Nat) (F G : Nat → Prop), i ≤ l.length ∧ e' 1 = .int .u8 (uv after) ∧ e' 6 = .pointer (some ⟨p, 0, none⟩) ∧ e' 7 = .pointer (some ⟨q, 0, none⟩) ∧ e' 18 = .slice a l.length cap ∧ e' 19 = .int .i64 l.length ∧ e' 20 = .int .i64 i ∧ St2 w0 w' p q F G (rndS l i) (rndS l i)) (fun e' _ => l.length - (intOf (e' 20)).toNat) ?_ ?_
  · refine ⟨0, F3, G4, by omega, ?_⟩
    simp -implicitDefEqProofs [go_sem]
    exact hst
  · rintro e' w6 ⟨i, F, G, hi, g1, g6, g7, g18, g19, g20, hs6⟩
    have hstp := rndS_steps l i
    by_cases hlt : i < l.length
    · have hlt' : (i : Int) < l.length := by omega
      have hwk := IntWalk.i64_in ((i : Int) + 1) (by omega)
      obtain ⟨b, o, rfl, hcv⟩ := (hin.next hs6.one.bel).at_.cell hlt
      have hgd : l.getD i 0#64 = l[i] := by simp [List.getD, hlt]
      have hmd : (i : Int).tmod 60 = ((i % 60 : Nat) : Int) := by rw [Int.tmod_eq_emod_of_nonneg (by omega)]; rfl
      have hw1 := IntWalk.i64_in (8 * ((i % 60 : Nat) : Int)) (by omega)
      have e8 : (8 * ((i % 60 : Nat) : Int)) = ((8 * (i % 60) : Nat) : Int) := by omega
      have hnx : rndS l (i + 1) = ((rndS l i).store (8 * ((i % 60 : Nat) : Int)) l[i]).1 := by rw [rndS, hgd, e8]
      generalize hm : i % 60 = m at *
      simp -implicitDefEqProofs [go_sem, g1, g6, g7, g18, g19, g20, hlt, hlt', hcv, hmd, hw1]
      refine callE_of (storeB (8 * (m : Int)) l[i] w6 hs6.one.dev (by unfold I64; omega) (by omega)) ?_
      rintro v w7 ⟨rfl, F7, h7, t7⟩
      have hs7 := hs6.first h7 t7
      simp -implicitDefEqProofs [go_sem, g1, g6, g7, g18, g19, g20, hmd, hw1]
      refine callE_of (storeB (8 * (m : Int)) l[i] w7 hs7.two.dev (by unfold I64; omega) (by omega)) ?_
      rintro v w8 ⟨rfl, G8, h8, t8⟩
      have hs8 := hs7.second h8 t8
      rw [← hnx] at hs8
      simp -implicitDefEqProofs [go_sem, g1, g6, g7, g18, g19, g20, hwk]
      refine goE_round ⟨i + 1, F7, G8, by omega, ?_⟩ ?_
      · simp -implicitDefEqProofs [go_sem, g1, g6, g7, g18, g19]
        exact hs8
      · simp -implicitDefEqProofs [go_sem, intOf, g20, hwk]; omega
    · have hi' : i = l.length := by omega
      subst hi'
      simp -implicitDefEqProofs [go_sem, g1, g6, g7, g18, g19, g20, hwc]
      refine callE_of (stopB (uv after) w6 hs6.one.dev (by omega)) ?_
      rintro v w7 ⟨rfl, F7, h7, t7⟩
      have hs7 := hs6.first h7 t7
      simp -implicitDefEqProofs [go_sem, g1, g6, g7, hwc]
      refine callE_of (stopB (uv after) w7 hs7.two.dev (by omega)) ?_
      rintro v w8 ⟨rfl, G8, h8, t8⟩
      have hs8 := hs7.second h8 t8
      simp -implicitDefEqProofs [go_sem, g6, g7]
      refine body_tmp2 4 5 rfl ?_
      simp -implicitDefEqProofs [go_sem]
      exact ⟨p, q, ⟨rfl, rfl⟩, F7, G8, hs8⟩

set_option maxHeartbeats 4000000 in
set_option maxRecDepth 20000 in
theorem same_calls' {W : World} {p q : Nat} {F G : Nat → Prop} {D : NM.Dv} (w0 : World) (h : St2 W w0 p q F G D D) (hl8 : D.ls.length = 8) (hc : D.steps < 1099511627776) :
    Ret Try.prog 43 #[.pointer (some ⟨p, 0, none⟩), .pointer (some ⟨q, 0, none⟩)] w0 fun v w' => v = .bool true ∧ Below w0.heap.size w0 w' := by
  have hsz : D.size = 512 := by unfold NM.Dv.size; rw [hl8]
  have hlenI := NM.image_len h.one.dev.ok
  rw [hsz] at hlenI
  have bel0 := Below.refl w0.heap.size w0
  refine ret_of (args := [_, _]) _ Try.func43 rfl Try.ntmps43 (by simp) ?_
  simp -implicitDefEqProofs [go_sem]
  refine drawE_mix [.pure 0, .pure 3, .run 1 [], .take 2, .run 4 [2], .run 5 [2], .pure 6, .pure 7, .pure 8, .pure 10, .run 9 [], .run 11 [], .pure 12, .pure 13] mixed (by decide +kernel) (by simp only [withOps, MStep.num, List.filterMap_cons, List.filterMap_nil, List.getElem?_cons_succ, List.getElem?_cons_zero, Option.map_some]; rfl) ?_
  replace h := h.drew
  have bel1 : Below w0.heap.size w0 w0.drew := bel0.drew
  generalize World.drew w0 = w1 at *
  simp -implicitDefEqProofs [go_sem]
  refine callE_of (imageB w1 h.one.dev) ?_
  rintro v w2 ⟨a2, c2, rfl, in2, b2, n2⟩
  rw [hsz]
  have bel2 := bel1.trans (b2.mono bel1.size)
  replace h := h.next b2
  refine ⟨.inr (by simp -implicitDefEqProofs [go_sem]), ?_⟩
  simp -implicitDefEqProofs [go_sem]
  refine onTake_of (fun w' => Below w2.heap.size w2 w') (.string (strB D.image)) (Below.refl _ _) (fun w' hw => by simp -implicitDefEqProofs [go_sem, img_str in2 hlenI.symm hw]) ?_
  simp -implicitDefEqProofs [go_sem]
  refine callE_of (imageB w2 h.two.dev) ?_
  rintro v w3 ⟨a3, c3, rfl, in3, b3, n3⟩
  rw [hsz]
  have bel3 := bel2.trans (b3.mono bel2.size)
  replace h := h.next b3
  refine ⟨.inr (by simp -implicitDefEqProofs [go_sem]; exact b3), ?_⟩
  simp -implicitDefEqProofs [go_sem, img_str in3 hlenI.symm (Below.refl _ _)]
  refine callE_of (stepsB w3 h.one.dev) ?_
  rintro v w4 ⟨rfl, rfl⟩
  simp -implicitDefEqProofs [go_sem]
  refine callE_of (stepsB w4 h.two.dev) ?_
  rintro v w5 ⟨rfl, rfl⟩
  simp -implicitDefEqProofs [go_sem]
  refine wpE_loop (fun e' w' => ∃ i : Nat, i ≤ 8 ∧ e' 0 = .pointer (some ⟨p, 0, none⟩) ∧ e' 1 = .pointer (some ⟨q, 0, none⟩) ∧ e' 20 = .int .i64 (i : Int) ∧ w' = w5) (fun e' _ => 8 - (intOf (e' 20)).toNat) ?_ ?_
  · refine ⟨0, by omega, ?_⟩
    simp -implicitDefEqProofs [go_sem]
  · rintro e' w6 ⟨i, hi, g0, g1, g20, rfl⟩
    by_cases hlt : i < 8
    · have hlt' : (i : Int) < 8 := by omega
      have hwi := IntWalk.i64_in ((i : Int) + 1) (by omega)
      simp -implicitDefEqProofs [go_sem, g0, g1, g20, hlt, hlt']
      refine callE_of (mayB i w6 h.one.dev hc) ?_
      rintro v w7 ⟨rfl, rfl⟩
      simp -implicitDefEqProofs [go_sem, g0, g1, g20]
      refine callE_of (mayB i w7 h.two.dev hc) ?_
      rintro v w8 ⟨rfl, rfl⟩
      simp -implicitDefEqProofs [go_sem, g0, g1, g20, hwi]
      refine goE_round ⟨i + 1, by omega, ?_⟩ ?_
      · simp -implicitDefEqProofs [go_sem, g0, g1]
      · simp -implicitDefEqProofs [go_sem, intOf, g20, hwi]; omega
    · have hi' : i = 8 := by omega
      subst hi'
      simp -implicitDefEqProofs [go_sem, g0, g1, g20]
      refine body_tmp 4 rfl ?_
      simp -implicitDefEqProofs [go_sem]
      exact bel3
end

/-- Put is PutAll of one word. -/
theorem put_putAll {D : NM.Dv} (hl : D.ls.length = 8) {o : Nat} (h8 : o % 8 = 0) (ho : o ≤ 504) (n : BitVec 64) : D.putAll (o : Int) [n] = runS D (putS o n) := by
  unfold NM.Dv.putAll
  have hw : D.within (o : Int) (([n] : List (BitVec 64)).length : Int) = 0 := within_in (n := 1) (by omega) h8 (by unfold NM.Dv.size; omega)
  rw [if_pos hw, Int.toNat_natCast]
  have hlines : linesOf o 1 = 1 := by unfold linesOf; rw [if_neg (by omega)]; omega
  have hs : putAllS o [n] = [.store (o : Int) n, .flush ((64 * (o / 64) : Nat) : Int), .fence] := by
    unfold putAllS
    rw [show ([n] : List (BitVec 64)).length = 1 from rfl, hlines]
    simp [storesS, flushesS, List.range_succ]
  rw [hs]
  unfold putS
  by_cases h0 : (D.step (.store (o : Int) n)).2 = 0
  · rw [runS_ok h0, runS_ok h0]
    have hlE := step_len D (.store (o : Int) n)
    generalize (D.step (.store (o : Int) n)).1 = E at *
    have hf : E.step (.flush ((64 * (o / 64) : Nat) : Int)) = E.step (.flush (o : Int)) := by
      show E.flush _ = E.flush _
      cases hd : E.down with
      | true => unfold NM.Dv.flush; rw [NM.ask_down (by omega) hd, NM.ask_down (by omega) hd]; rfl
      | false =>
        have a1 : E.ask ((64 * (o / 64) : Nat) : Int) 1 = 0 := NM.ask_nat (e := 1) (by omega) hd (by unfold NM.Dv.size; omega) (Nat.mod_one _)
        have a2 : E.ask (o : Int) 1 = 0 := NM.ask_nat (e := 1) (by omega) hd (by unfold NM.Dv.size; omega) (Nat.mod_one _)
        unfold NM.Dv.flush
        rw [if_pos a1, if_pos a2, Int.toNat_natCast, Int.toNat_natCast, show 64 * (o / 64) / 64 = o / 64 by omega]
    by_cases h1 : (E.step (.flush (o : Int))).2 = 0
    · rw [runS_ok h1, runS_ok (by rw [hf]; exact h1), hf]
    · rw [runS_err h1, runS_err (by rw [hf]; exact h1), hf]
  · rw [runS_err h0, runS_err h0]
theorem putAll_none {D : NM.Dv} (hl : D.ls.length = 8) {o : Nat} (h8 : o % 8 = 0) (ho : o ≤ 504) : D.putAll (o : Int) [] = D.fence := by
  unfold NM.Dv.putAll
  have hw : D.within (o : Int) (([] : List (BitVec 64)).length : Int) = 0 := within_in (n := 0) (by omega) h8 (by unfold NM.Dv.size; omega)
  rw [if_pos hw, Int.toNat_natCast]
  have hs : putAllS o [] = [.fence] := rfl
  rw [hs]
  by_cases h0 : (D.step .fence).2 = 0
  · rw [runS_ok h0]; exact Prod.ext rfl h0.symm
  · rw [runS_err h0]; rfl
/-- At a place that is none both fail. -/
theorem wrong_put {D : NM.Dv} (hl : D.ls.length = 8) {off : Int} (h : ¬ (0 ≤ off ∧ off.tmod 8 = 0 ∧ off ≤ 504)) (n : BitVec 64) : ¬ (runS D (putS off n)).2 = 0 ∧ ¬ (D.putAll off [n]).2 = 0 := by
  have hsz : D.size = 512 := by unfold NM.Dv.size; rw [hl]
  constructor
  · have ha : ¬ (D.step (.store off n)).2 = 0 := by
      show ¬ (D.store off n).2 = 0
      rw [NM.store_err]
      intro ha
      obtain ⟨o, rfl, h8, hs⟩ := ask8 (by omega) ha
      exact h ⟨by omega, by rw [Int.tmod_eq_emod_of_nonneg (by omega)]; omega, by omega⟩
    unfold putS
    rw [runS_err ha]; exact ha
  · have hw : ¬ D.within off (([n] : List (BitVec 64)).length : Int) = 0 := by
      intro hw
      obtain ⟨o, rfl, h8, hs⟩ := within_ok (n := 1) (by omega) hw
      exact h ⟨by omega, by rw [Int.tmod_eq_emod_of_nonneg (by omega)]; omega, by omega⟩
    unfold NM.Dv.putAll
    rw [if_neg hw]; exact hw
end Go.Proofs.Ytkljlgahdlgmpaa
