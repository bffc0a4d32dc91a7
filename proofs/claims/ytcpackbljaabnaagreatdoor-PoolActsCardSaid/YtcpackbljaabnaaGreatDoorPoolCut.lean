/- A put that ends anywhere, and a crash behind it (plain). -/
import Derived.Test.YtcpackbljaabnaaGreatDoorPoolGood
namespace Go.Proofs.YtcpackbljaabnaaGreatDoor
set_option linter.unusedVariables false
set_option linter.unusedSimpArgs false
set_option maxRecDepth 100000
open Go Go.RowKit

namespace NM
open Go.Proofs.YtcpackbljaabnaaGreatDoor.WM (getM putM putM_length putM_getD hasB get_put byteOf byteOf_wd wd)
/-- A word of a line is what it was, or it is the one that is put. -/
def CQ (W : Nat → BitVec 64) (o : Nat) (n : BitVec 64) (i : Nat) (b : List (BitVec 8)) : Prop := b.length = 64 ∧ ∀ r, r < 8 → getM b (8 * r) = W (64 * i + 8 * r) ∨ (64 * i + 8 * r = o ∧ getM b (8 * r) = n)
def CI (W : Nat → BitVec 64) (o : Nat) (n : BitVec 64) (N : Nat) (E : Dv) : Prop := E.ls.length = N ∧ E.Ok ∧ ∀ i, i < N → AllC (CQ W o n i) (E.ln i)
section
variable {W : Nat → BitVec 64} {o N : Nat} {n : BitVec 64}
theorem ci_store (hn : 1 ≤ N) (h8 : o % 8 = 0) {E : Dv} (h : CI W o n N E) : CI W o n N (E.store (o : Int) n).1 := by
  obtain ⟨hl, hok, hq⟩ := h
  refine ⟨by have := step_len E (.store (o : Int) n); exact this.trans hl, hok.store _ _, fun i hi => ?_⟩
  refine AllC.storeLn hok (by omega) _ _ (hq i hi) ?_
  by_cases ha : E.ask (o : Int) 8 = 0
  · obtain ⟨o', ho', _, hos⟩ := ask8 (by omega) ha
    have : o' = o := by omega
    subst this
    rw [store_now hok _ ha h8 hos]
    by_cases e : i = o' / 64
    · rw [if_pos e]
      obtain ⟨q, hq8⟩ : ∃ q, o' % 64 = 8 * q := ⟨o' % 64 / 8, by omega⟩
      subst e
      rw [hq8]
      have hb := (hq _ hi).now
      refine ⟨by rw [putM_length]; exact hb.1, fun r hr => ?_⟩
      rw [get_put _ q r _ (by rw [hb.1]; omega)]
      by_cases e : q = r
      · subst e; rw [if_pos rfl]; exact .inr ⟨by omega, rfl⟩
      · rw [if_neg e]; exact hb.2 r hr
    · rw [if_neg e]; exact (hq i hi).now
  · rw [store_fail _ _ ha]; exact (hq i hi).now
theorem ci_put (hn : 1 ≤ N) (h8 : o % 8 = 0) {E : Dv} (h : CI W o n N E) : CI W o n N (runS E (putS o n)).1 := by
  refine runS_inv (I := CI W o n N) _ (fun s hs E hE => ?_) h
  unfold putS at hs
  simp only [List.mem_cons, List.not_mem_nil, or_false] at hs
  rcases hs with rfl | rfl | rfl
  · exact ci_store hn h8 hE
  · exact ⟨(step_len E (.flush _)).trans hE.1, hE.2.1.flush _, fun i hi => AllC.flushLn (by have := hE.1; omega) _ (hE.2.2 i hi)⟩
  · exact ⟨(step_len E .fence).trans hE.1, hE.2.1.fence, fun i hi => AllC.fenceLn (by have := hE.1; omega) (hE.2.2 i hi)⟩
theorem ci_start {D : Dv} (hok : D.Ok) (hc : Calm D) : CI D.word o n D.ls.length D := by
  refine ⟨rfl, hok, fun i hi => allC_one ⟨(Dv.Ok0.ln hok.to0 i).len, fun r hr => .inl ?_⟩ (hc i hi)⟩
  unfold Dv.word
  rw [show (64 * i + 8 * r) / 64 = i by omega, show (64 * i + 8 * r) % 64 = 8 * r by omega]
theorem ci_crash {E : Dv} (h : CI W o n N E) (ps : List (BitVec 8)) {x : Nat} (hx : x % 8 = 0) (hxN : x < 64 * N) : (E.crash ps).word x = W x ∨ (x = o ∧ (E.crash ps).word x = n) := by
  obtain ⟨hl, hok, hq⟩ := h
  obtain ⟨k, hk, e⟩ := crash_ln (D := E) ps (i := x / 64) (by omega)
  have hQ := (hq (x / 64) (by omega)).crash hk
  have h2 := hQ.2 (x % 64 / 8) (by omega)
  unfold Dv.word
  rw [e]
  rw [show 8 * (x % 64 / 8) = x % 64 by omega, show 64 * (x / 64) + x % 64 = x by omega] at h2
  exact h2
end
theorem stop_ls (D : Dv) (z : Int) : (D.stop z).ls = D.ls := by unfold Dv.stop; split <;> rfl
theorem stop_steps (D : Dv) (z : Int) : (D.stop z).steps = D.steps := by unfold Dv.stop; split <;> rfl
theorem stop_ln (D : Dv) (z : Int) (i : Nat) : (D.stop z).ln i = D.ln i := by unfold Dv.ln; rw [stop_ls]
theorem stop_word (D : Dv) (z : Int) (x : Nat) : (D.stop z).word x = D.word x := by unfold Dv.word; rw [stop_ln]
theorem crash_stepsE (D : Dv) (ps : List (BitVec 8)) : (D.crash ps).steps = D.steps := by unfold Dv.crash; split <;> rfl
theorem ok_stop {D : Dv} (h : D.Ok) (z : Int) (hz : z ≤ 9223372036854775807) : (D.stop z).Ok := h.stop z hz
/-- A put behind a Stop, then a crash. -/
theorem cut_put {D : Dv} (hok : D.Ok) (hc : Calm D) (hp : 0 < D.ls.length) {o : Nat} (h8 : o % 8 = 0) (ho : o + 8 ≤ D.size) (n : BitVec 64) {z : Int} (hz : z ≤ 9223372036854775807) (ps : List (BitVec 8)) :
    ((runS (D.stop z) (putS o n)).2 = 0 ∨ (runS (D.stop z) (putS o n)).2 = 12) ∧ (runS (D.stop z) (putS o n)).1.ls.length = D.ls.length ∧
    (∀ x, x % 8 = 0 → x < D.size → ((runS (D.stop z) (putS o n)).1.crash ps).word x = D.word x ∨ (x = o ∧ ((runS (D.stop z) (putS o n)).1.crash ps).word x = n)) ∧
    ((runS (D.stop z) (putS o n)).2 = 0 → ((runS (D.stop z) (putS o n)).1.crash ps).word o = n) := by
  have hl : (D.stop z).ls.length = D.ls.length := by rw [stop_ls]
  have hsz : (D.stop z).size = D.size := by unfold Dv.size; rw [hl]
  have hok1 := ok_stop hok z hz
  have hcalm1 : Calm (D.stop z) := fun i hi => by rw [stop_ln]; exact hc i (by rw [← hl]; exact hi)
  have hw : (D.stop z).word = D.word := funext fun x => stop_word D z x
  have h1 := ci_start (o := o) (n := n) hok1 hcalm1
  rw [hw, hl] at h1
  have h2 := ci_put (by omega) h8 h1
  have hlen : (runS (D.stop z) (putS o n)).1.ls.length = D.ls.length := h2.1
  have hin := putAllS_in (o := o) (l := [n]) (N := (D.stop z).ls.length) h8 (by unfold Dv.size at ho; show o + 8 * 1 ≤ _; rw [hl]; omega)
  have he := runS_err2 (D := D.stop z) (by omega) _ hin
  have hone := fun h => putAll_one (D := D.stop z) (by omega) (o := o) (l := [n]) h8 (by show o + 8 * 1 ≤ _; omega) h (j := 0) (by show 0 < 1; omega)
  have hwd := fun h => putAll_words hok1 (by omega) (o := o) (l := [n]) h8 (by show o + 8 * 1 ≤ _; omega) h (x := o) h8 (by omega)
  rw [Go.Proofs.YtcpackbljaabnaaGreatDoor.put_same h8 (by omega)] at he hone hwd
  refine ⟨he, hlen, fun x hx hxs => ?_, fun h => ?_⟩
  · exact ci_crash h2 ps hx (by unfold Dv.size at hxs; exact hxs)
  · have hone := hone h
    have hwd := hwd h
    rw [if_pos ⟨Nat.le_refl _, by show o < o + 8 * 1; omega⟩, Nat.sub_self] at hwd
    have hs := crash_same ps (i := o / 64) (by rw [hlen]; unfold Dv.size at ho; omega) (by simpa using hone)
    have : ((runS (D.stop z) (putS o n)).1.crash ps).word o = (runS (D.stop z) (putS o n)).1.word o := by
      unfold Dv.word; rw [hs]
    rw [this]; exact hwd
end NM
section
variable {m k i : Nat} {V : PV} {x : BitVec 64} {z : Int}
/-- A device that has the header, and a table: what a pool opens. -/
theorem good_of {T : List (BitVec 64)} {D E : NM.Dv} {ps : List (BitVec 8)} (hm : 1 ≤ m ∧ m ≤ 4) (hu : D.Up) (ho : D.openH = (shN m, 0)) (hl : D.ls.length = 3 + 16 * m) (hle : E.ls.length = D.ls.length) (hok : (E.crash ps).Ok) (hT : T.length = m) (hr : ∀ j, j < m → WM.rB (T.getD j 0#64) = true)
    (hs : E.steps ≤ 100000 + 3 * k) (hw : ∀ y, y % 8 = 0 → y < 64 → (E.crash ps).word y = D.word y) (ht : ∀ j, j < m → (E.crash ps).word (128 + 8 * j) = T.getD j 0#64) : Good m k ⟨T, zL m, E.crash ps⟩ := by
  have hcl := NM.crash_len E ps
  have hup := NM.Dv.Up.crash (D := E) (by rw [hle, hl]; omega) ps
  refine ⟨⟨hT, zL_len m, fun j hj => ?_, hup, hok, by rw [hcl, hle, hl], ht⟩, ?_, NM.calm_crash ps, by rw [NM.crash_stepsE]; exact hs⟩
  · show WM.Pair (T.getD j 0#64) ((zL m).getD j 0#64)
    rw [zL_get]
    exact ⟨hr j hj, WM.rB0, .inr (.inl WM.cR0), fun i _ _ => WM.tR0 i⟩
  · rw [← ho, NM.open_up (by rw [hl]; omega) hu.down, NM.open_up (by rw [hcl, hle, hl]; omega) hup.down, hcl, hle]
    have e : wordsAt (E.crash ps) 0 8 = wordsAt D 0 8 := by
      unfold wordsAt
      refine List.map_congr_left fun i hi => ?_
      have := List.mem_range.1 hi
      exact hw (0 + 8 * i) (by omega) (by omega)
    rw [e]
/-- A put that ends anywhere: the pool that is opened behind the crash has the old word, or the new one. -/
theorem cut_good (h : Good m k V) (hm : 1 ≤ m ∧ m ≤ 4) (hi : i < m) (hx : WM.rB x = true) (hz : z ≤ 9223372036854775807) (ps : List (BitVec 8)) (hok : ((runS (V.D.stop z) (putS ((128 + 8 * i : Nat) : Int) x)).1.crash ps).Ok) :
    ((runS (V.D.stop z) (putS ((128 + 8 * i : Nat) : Int) x)).2 = 0 ∧ Good m (k + 1) ⟨V.T.set i x, zL m, (runS (V.D.stop z) (putS ((128 + 8 * i : Nat) : Int) x)).1.crash ps⟩) ∨
    ((runS (V.D.stop z) (putS ((128 + 8 * i : Nat) : Int) x)).2 = 12 ∧ ∃ T', (T' = V.T ∨ T' = V.T.set i x) ∧ Good m (k + 1) ⟨T', zL m, (runS (V.D.stop z) (putS ((128 + 8 * i : Nat) : Int) x)).1.crash ps⟩) := by
  have hw := h.well
  have hl := hw.lines
  have hs : V.D.size = 64 * (3 + 16 * m) := by unfold NM.Dv.size; rw [hl]
  obtain ⟨c1, c2, c3, c4⟩ := NM.cut_put hw.ok h.calm (by rw [hl]; omega) (o := 128 + 8 * i) (by omega) (by omega) x hz ps
  have hst := runS_steps (V.D.stop z) (putS ((128 + 8 * i : Nat) : Int) x)
  have h4 : (putS ((128 + 8 * i : Nat) : Int) x).length = 3 := rfl
  rw [NM.stop_steps, h4] at hst
  have h5 := h.steps
  generalize runS (V.D.stop z) (putS ((128 + 8 * i : Nat) : Int) x) = R at *
  have hr : ∀ j, j < m → WM.rB (V.T.getD j 0#64) = true := fun j hj => (hw.pair j hj).rt
  have hr2 : ∀ j, j < m → WM.rB ((V.T.set i x).getD j 0#64) = true := fun j hj => by
    rw [wordsSet hw.len hj]
    by_cases e : j = i
    · rw [if_pos e]; exact hx
    · rw [if_neg e]; exact hr j hj
  have hlow : ∀ y, y % 8 = 0 → y < 64 → (R.1.crash ps).word y = V.D.word y := fun y hy hy64 => by
    rcases c3 y hy (by omega) with h | ⟨h, _⟩
    · exact h
    · omega
  have hold : ∀ j, j < m → j ≠ i → (R.1.crash ps).word (128 + 8 * j) = V.T.getD j 0#64 := fun j hj hne => by
    rcases c3 (128 + 8 * j) (by omega) (by omega) with h | ⟨h, _⟩
    · rw [h]; exact hw.tab j hj
    · omega
  have hnew : (R.1.crash ps).word (128 + 8 * i) = x → Good m (k + 1) ⟨V.T.set i x, zL m, R.1.crash ps⟩ := fun hwi =>
    good_of hm hw.up h.open_ hl c2 hok (by rw [List.length_set]; exact hw.len) hr2 (by omega) hlow (fun j hj => by
      rw [wordsSet hw.len hj]
      by_cases e : j = i
      · subst e; rw [if_pos rfl]; exact hwi
      · rw [if_neg e]; exact hold j hj e)
  rcases c1 with e | e
  · exact .inl ⟨e, hnew (c4 e)⟩
  · refine .inr ⟨e, ?_⟩
    rcases c3 (128 + 8 * i) (by omega) (by omega) with h1 | ⟨_, h1⟩
    · refine ⟨V.T, .inl rfl, good_of hm hw.up h.open_ hl c2 hok hw.len hr (by omega) hlow (fun j hj => ?_)⟩
      by_cases e : j = i
      · subst e; rw [h1]; exact hw.tab j hj
      · exact hold j hj e
    · exact ⟨_, .inr rfl, hnew h1⟩
end
end Go.Proofs.YtcpackbljaabnaaGreatDoor
