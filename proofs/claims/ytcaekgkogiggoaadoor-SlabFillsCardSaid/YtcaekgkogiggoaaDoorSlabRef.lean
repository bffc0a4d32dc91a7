/- The reference's slabs: walks. -/
import Derived.Test.YtcaekgkogiggoaaDoorSlabWalk
import Derived.Test.YtcaekgkogiggoaaDoorSlabMath2
import Derived.Test.YtcaekgkogiggoaaDoorAgg
namespace Go.Proofs.YtcaekgkogiggoaaDoor
open Go Go.RowKit

/-- A slab, as cells. -/
def slabC (c : Int) (T : Nat → Bool) : Array Value := (Value.int .i64 c :: (List.range 16).map (fun i => Value.bool (T i))).toArray
theorem slabC_size (c : Int) (T : Nat → Bool) : (slabC c T).size = 17 := by simp [slabC]
theorem slabC_0 (c : Int) (T : Nat → Bool) : (slabC c T)[0]? = some (.int .i64 c) := by simp [slabC]
theorem slabC_at (c : Int) (T : Nat → Bool) (i : Nat) (hi : i < 16) : (slabC c T)[1 + i]? = some (.bool (T i)) := by
  rw [Nat.add_comm]; simp [slabC, hi]
theorem slabC_set0 (c d : Int) (T : Nat → Bool) : (slabC c T).setIfInBounds 0 (.int .i64 d) = slabC d T := by simp [slabC]
theorem slabC_setT (c : Int) (T : Nat → Bool) (i : Nat) (hi : i < 16) (b : Bool) : (slabC c T).setIfInBounds (1 + i) (.bool b) = slabC c (WM.setT T i b) := by
  apply Array.ext_getElem?
  intro j
  rw [Array.getElem?_setIfInBounds, slabC_size]
  by_cases h0 : j = 0
  · subst h0; rw [if_neg (by omega), slabC_0, slabC_0]
  · obtain ⟨k, rfl⟩ : ∃ k, j = 1 + k := ⟨j - 1, by omega⟩
    by_cases hk : k < 16
    · rw [slabC_at _ _ _ hk, slabC_at _ _ _ hk]
      by_cases h : i = k
      · subst h; rw [if_pos rfl, if_pos (by omega)]; simp [WM.setT]
      · have h' : ¬ k = i := fun e => h e.symm
        rw [if_neg (by omega)]; simp [WM.setT, h']
    · rw [if_neg (by omega), Array.getElem?_eq_none (by rw [slabC_size]; omega), Array.getElem?_eq_none (by rw [slabC_size]; omega)]
theorem slabC_congr {c : Int} {T U : Nat → Bool} (h : ∀ i, i < 16 → T i = U i) : slabC c T = slabC c U := by
  unfold slabC
  rw [List.map_congr_left (fun i hi => by rw [h i (List.mem_range.1 hi)])]
def noT : Nat → Bool := fun _ => false
theorem slabC_zero : slabC 0 noT = #[.int .i64 0, .bool false, .bool false, .bool false, .bool false, .bool false, .bool false, .bool false, .bool false, .bool false, .bool false, .bool false, .bool false, .bool false, .bool false, .bool false, .bool false] := rfl
theorem slabC_one (c : Int) (T : Nat → Bool) : ∀ v ∈ (slabC c T).toList, v.oneCell' = true := by
  intro v hv
  simp [slabC] at hv
  rcases hv with rfl | ⟨i, _, rfl⟩ <;> rfl
theorem slabT : Tryd.prog.underlying 57 = some (.struct #[]) ∨ True := .inr trivial
theorem slabI : (Tryd.prog.info? 57).map (·.size) = some 17 := by kernel_rfl
theorem slabI' (c : Int) (T : Nat → Bool) : (Tryd.prog.info? 57).map (·.size) = some (slabC c T).size := by rw [slabC_size]; exact slabI

set_option linter.unusedSimpArgs false in
theorem refBlocks_calls (c : Int) (w : World) : Ret Tryd.prog 36 #[.int .i64 c] w fun v w' => v = .int .i64 (WM.blocksI c) ∧ w' = w := by
  refine ret_of (args := [_]) _ Tryd.func36 rfl Tryd.ntmps36 (by simp) ?_
  by_cases h1 : c = 1
  · subst h1
    simp -implicitDefEqProofs [go_sem]
    refine body_tmp 2 rfl ?_
    simp -implicitDefEqProofs [go_sem, WM.blocksI]
  · have h1' : (c == 1) = false := by rw [beq_eq_false_iff_ne]; exact h1
    by_cases h2 : c = 2
    · subst h2
      simp -implicitDefEqProofs [go_sem]
      refine body_tmp 2 rfl ?_
      simp -implicitDefEqProofs [go_sem, WM.blocksI]
    · have h2' : (c == 2) = false := by rw [beq_eq_false_iff_ne]; exact h2
      simp -implicitDefEqProofs [go_sem, h1', h2']
      refine body_tmp 2 rfl ?_
      simp -implicitDefEqProofs [go_sem, WM.blocksI, h1, h2]
def linesI (c : Int) : Int := if c = 1 then 1 else if c = 2 then 4 else 0
set_option linter.unusedSimpArgs false in
theorem lines_calls (c : Int) (w : World) : Ret Tryd.prog 37 #[.int .i64 c] w fun v w' => v = .int .i64 (linesI c) ∧ w' = w := by
  refine ret_of (args := [_]) _ Tryd.func37 rfl Tryd.ntmps37 (by simp) ?_
  by_cases h1 : c = 1
  · subst h1
    simp -implicitDefEqProofs [go_sem]
    refine body_tmp 2 rfl ?_
    simp -implicitDefEqProofs [go_sem, linesI]
  · have h1' : (c == 1) = false := by rw [beq_eq_false_iff_ne]; exact h1
    by_cases h2 : c = 2
    · subst h2
      simp -implicitDefEqProofs [go_sem]
      refine body_tmp 2 rfl ?_
      simp -implicitDefEqProofs [go_sem, linesI]
    · have h2' : (c == 2) = false := by rw [beq_eq_false_iff_ne]; exact h2
      simp -implicitDefEqProofs [go_sem, h1', h2']
      refine body_tmp 2 rfl ?_
      simp -implicitDefEqProofs [go_sem, linesI, h1, h2]
set_option linter.unusedSimpArgs false in
theorem refLines_calls (c : Int) (w : World) : Ret Tryd.prog 38 #[.int .i64 c] w fun v w' => v = .int .i64 (linesI c) ∧ w' = w := by
  refine ret_of (args := [_]) _ Tryd.func38 rfl Tryd.ntmps38 (by simp) ?_
  by_cases h1 : c = 1
  · subst h1
    simp -implicitDefEqProofs [go_sem]
    refine body_tmp 2 rfl ?_
    simp -implicitDefEqProofs [go_sem, linesI]
  · have h1' : (c == 1) = false := by rw [beq_eq_false_iff_ne]; exact h1
    by_cases h2 : c = 2
    · subst h2
      simp -implicitDefEqProofs [go_sem]
      refine body_tmp 2 rfl ?_
      simp -implicitDefEqProofs [go_sem, linesI]
    · have h2' : (c == 2) = false := by rw [beq_eq_false_iff_ne]; exact h2
      simp -implicitDefEqProofs [go_sem, h1', h2']
      refine body_tmp 2 rfl ?_
      simp -implicitDefEqProofs [go_sem, linesI, h1, h2]

set_option linter.unusedSimpArgs false in
theorem count_calls (c : Int) (T : Nat → Bool) (w0 : World) : Ret Tryd.prog 48 #[.agg (slabC c T)] w0 fun v w' => v = .int .i64 (WM.cnt T 16) ∧ Below w0.heap.size w0 w' := by
  have bel0 := Below.refl w0.heap.size w0
  refine ret_of (args := [_]) _ Tryd.func48 rfl Tryd.ntmps48 (by simp) ?_
  simp -implicitDefEqProofs [go_sem]
  generalize hw1 : World.alloc w0 _ = w1 at *
  obtain ⟨hB1, b1, sz1⟩ := new_facts hw1
  have bel1 := bel0.trans (b1.mono bel0.size)
  refine wpE_loop (fun e' w' => w' = w1 ∧ ∃ k : Nat, k ≤ 16 ∧ e' 1 = .pointer (some ⟨w0.heap.size, 0, none⟩) ∧ e' 3 = .int .i64 (WM.cnt T k) ∧ e' 4 = .int .i64 k) (fun e' _ => 16 - (intOf (e' 4)).toNat) ?_ ?_
  · refine ⟨rfl, 0, by omega, ?_⟩
    simp -implicitDefEqProofs [go_sem, WM.cnt]
  · rintro e' w' ⟨rfl, k, hk, h1, h3, h4⟩
    by_cases hlt : k < 16
    · have hw := IntWalk.i64_in ((k : Int) + 1) (by omega)
      have hlt' : (k : Int) < 16 := by omega
      have hcl := WM.cnt_le T k
      have hw2 := IntWalk.i64_in ((WM.cnt T k : Int) + 1) (by omega)
      have g := hB1.cell (1 + k)
      rw [slabC_at _ _ _ hlt] at g
      cases hT : T k
      · rw [hT] at g
        simp -implicitDefEqProofs [go_sem, h1, h3, h4, hlt', hlt, g, hw]
        refine goE_round ⟨rfl, k + 1, by omega, ?_⟩ ?_
        · simp -implicitDefEqProofs [go_sem, h1, h3, WM.cnt, hT]
        · simp -implicitDefEqProofs [go_sem, intOf, h4, hw]; omega
      · rw [hT] at g
        simp -implicitDefEqProofs [go_sem, h1, h3, h4, hlt', hlt, g, hw, hw2]
        refine goE_round ⟨rfl, k + 1, by omega, ?_⟩ ?_
        · simp -implicitDefEqProofs [go_sem, h1, h3, WM.cnt, hT]
        · simp -implicitDefEqProofs [go_sem, intOf, h4, hw]; omega
    · have hk' : k = 16 := by omega
      subst hk'
      simp -implicitDefEqProofs [go_sem, h1, h3, h4]
      refine body_tmp 2 rfl ?_
      simp -implicitDefEqProofs [go_sem]
      exact bel1
set_option linter.unusedSimpArgs false in
theorem word_calls (c : Nat) (T : Nat → Bool) (w0 : World) (hc : c < 4) : Ret Tryd.prog 46 #[.agg (slabC c T)] w0 fun v w' => v = .int .u64 (uv (WM.wordR c T)) ∧ Below w0.heap.size w0 w' := by
  have bel0 := Below.refl w0.heap.size w0
  refine ret_of (args := [_]) _ Tryd.func46 rfl Tryd.ntmps46 (by simp) ?_
  have hcv : BitVec.ofInt 64 (c : Int) = BitVec.ofNat 64 c := by rw [BitVec.ofInt_natCast]
  have hu1 : uv (BitVec.twoPow 64 0) = 1 := rfl
  simp -implicitDefEqProofs [go_sem, slabC_0, hcv]
  generalize hw1 : World.alloc w0 _ = w1 at *
  obtain ⟨hB1, b1, sz1⟩ := new_facts hw1
  have bel1 := bel0.trans (b1.mono bel0.size)
  refine wpE_loop (fun e' w' => w' = w1 ∧ ∃ k : Nat, k ≤ 16 ∧ e' 1 = .pointer (some ⟨w0.heap.size, 0, none⟩) ∧ e' 3 = .int .u64 (uv (WM.wordK c T k)) ∧ e' 4 = .int .u64 (uv (BitVec.twoPow 64 k)) ∧ e' 5 = .int .i64 k) (fun e' _ => 16 - (intOf (e' 5)).toNat) ?_ ?_
  · refine ⟨rfl, 0, by omega, ?_⟩
    simp -implicitDefEqProofs [go_sem, WM.wordK, hu1]
  · rintro e' w' ⟨rfl, k, hk, h1, h3, h4, h5⟩
    by_cases hlt : k < 16
    · have hw := IntWalk.i64_in ((k : Int) + 1) (by omega)
      have hlt' : (k : Int) < 16 := by omega
      have g := hB1.cell (1 + k)
      rw [slabC_at _ _ _ hlt] at g
      cases hT : T k
      all_goals
        rw [hT] at g
        simp -implicitDefEqProofs [go_sem, h1, h3, h4, h5, hlt', hlt, g, hw]
        refine goE_round ⟨rfl, k + 1, by omega, ?_⟩ ?_
        · simp -implicitDefEqProofs [go_sem, h1, h3, h4, WM.wordK, hT, WM.two_mul]
        · simp -implicitDefEqProofs [go_sem, intOf, h5, hw]; omega
    · have hk' : k = 16 := by omega
      subst hk'
      simp -implicitDefEqProofs [go_sem, h1, h3, h4, h5]
      refine body_tmp 2 rfl ?_
      simp -implicitDefEqProofs [go_sem, WM.wordR]
      exact bel1

theorem noT_eq (x : BitVec 64) (h : WM.rB x = false) : slabC 0 noT = slabC 0 (WM.tR x) := by
  congr 1; funext i; simp [noT, WM.tR, h]
/-- The first k bits. -/
def upT (x : BitVec 64) (k i : Nat) : Bool := decide (i < k) && x.getLsbD i
theorem upT_zero (x : BitVec 64) : upT x 0 = noT := by funext i; simp [upT, noT]
theorem upT_set (x : BitVec 64) (k : Nat) : WM.setT (upT x k) k (x.getLsbD k) = upT x (k + 1) := by
  funext i
  unfold WM.setT upT
  by_cases h : i = k
  · subst h; simp
  · have : decide (i < k + 1) = decide (i < k) := decide_eq_decide.2 (by omega)
    rw [if_neg h, this]

set_option maxHeartbeats 1000000 in
set_option linter.unusedSimpArgs false in
theorem of_calls (x : BitVec 64) (w0 : World) : Ret Tryd.prog 33 #[.int .u64 (uv x)] w0 fun v w' => v = .tuple #[.agg (slabC (WM.cR x) (WM.tR x)), .bool (WM.rB x)] ∧ Below w0.heap.size w0 w' := by
  have bel0 := Below.refl w0.heap.size w0
  refine ret_of (args := [_]) _ Tryd.func33 rfl Tryd.ntmps33 (by simp) ?_
  simp -implicitDefEqProofs [go_sem]
  generalize hw1 : World.alloc w0 _ = w1 at *
  obtain ⟨hB1, b1, sz1⟩ := new_facts hw1
  have bel1 := bel0.trans (b1.mono bel0.size)
  rw [← sz1]
  generalize hw2 : World.alloc w1 _ = w2 at *
  obtain ⟨hB2, b2, sz2⟩ := new_facts hw2
  have bel2 := bel1.trans (b2.mono bel1.size)
  replace hB1 := hB1.next b2
  rw [← slabC_zero] at hB1 hB2
  have hst := Tryd.underlying57
  by_cases hbig : 196608#64 ≤ x
  · have hb : WM.rB x = false := by
      cases hb : WM.rB x
      · rfl
      · have := ((WM.rB_iff x).1 hb).1
        rw [BitVec.le_def] at hbig; simp at hbig; omega
    simp -implicitDefEqProofs [go_sem, hbig, ↓ldAll hB2 hst rfl slabI (slabC_size _ _), ↓stAll hB1 (slabI' 0 noT) rfl (slabC_one _ _)]
    refine bodyCell 2 3 rfl (by simp -implicitDefEqProofs [go_sem]) (hB1.row (slabC 0 noT)) hst rfl (slabI' _ _) ?_
    simp -implicitDefEqProofs [go_sem, WM.cR, hb, noT_eq x hb]
    exact Below.row bel2 (by omega) _
  · have hx : x.toNat < 196608 := by rw [BitVec.le_def] at hbig; simp at hbig; omega
    have hk3 : WM.kR x < 3 := by unfold WM.kR; omega
    have hcv : IntKind.i64.wrap (uv (x / 65536#64)) = (WM.kR x : Int) := by
      have : uv (x / 65536#64) = (WM.kR x : Int) := by unfold uv WM.kR; rw [BitVec.toNat_udiv]; rfl
      rw [this, IntWalk.i64_in _ (by omega)]
    have hB3 := hB2.set 0 (.int .i64 (WM.kR x : Int))
    rw [slabC_set0] at hB3
    have hB13 := hB1.setOther (a := ⟨w1.heap.size, 0, none⟩) (by show w1.heap.size ≠ w0.heap.size; omega) (.int .i64 (WM.kR x : Int))
    have bel3 : Below w0.heap.size w0 (w2.setCell ⟨w1.heap.size, 0, none⟩ (.int .i64 (WM.kR x : Int))) := bel2.setCell (by show w0.heap.size ≤ w1.heap.size; omega) _
    have hn0 := WM.nK_zero x
    simp -implicitDefEqProofs [go_sem, hbig, hcv, hB2.cell, slabC_0, hB2.thaw, hn0]
    generalize World.setCell w2 _ _ = w3 at *
    have hlt12 : w0.heap.size ≠ w1.heap.size := by omega
    refine wpE_loop (fun e' w' => ∃ k : Nat, k ≤ 16 ∧ e' 2 = .pointer (some ⟨w0.heap.size, 0, none⟩) ∧ e' 4 = .pointer (some ⟨w1.heap.size, 0, none⟩) ∧ e' 5 = .int .u64 (uv (WM.nK x k)) ∧ e' 6 = .int .i64 k ∧
      Blk w' w0.heap.size (slabC 0 noT) 57 ∧ Blk w' w1.heap.size (slabC (WM.kR x) (upT x k)) 57 ∧ (∀ i, i < k → x.getLsbD i = true → i < WM.bl (WM.kR x)) ∧ Below w0.heap.size w0 w') (fun e' _ => 16 - (intOf (e' 6)).toNat) ?_ ?_
    · refine ⟨0, by omega, ?_⟩
      simp -implicitDefEqProofs [go_sem]
      exact ⟨hB13, by rw [upT_zero]; exact hB3, bel3⟩
    · rintro e' w' ⟨k, hk, h2, h4, h5, h6, hR, hS, hal, bel⟩
      by_cases hlt : k < 16
      · have hw := IntWalk.i64_in ((k : Int) + 1) (by omega)
        have hlt' : (k : Int) < 16 := by omega
        have g := hS.cell (1 + k)
        rw [slabC_at _ _ _ hlt] at g
        have hset := hS.set (1 + k) (.bool (x.getLsbD k))
        rw [slabC_setT _ _ _ hlt, upT_set] at hset
        have hR2 := hR.setOther (a := ⟨w1.heap.size, 1 + k, none⟩) (by show w1.heap.size ≠ w0.heap.size; omega) (.bool (x.getLsbD k))
        have bel' : Below w0.heap.size w0 (w'.setCell ⟨w1.heap.size, 1 + k, none⟩ (.bool (x.getLsbD k))) := bel.setCell (by show w0.heap.size ≤ w1.heap.size; omega) _
        have f := hS.thaw (1 + k)
        have hbit := WM.nK_bit x k hlt
        have hnk := WM.nK_succ x k
        simp -implicitDefEqProofs [go_sem, h2, h4, h5, h6, hlt', hlt, g, f, hbit, hnk]
        generalize World.setCell w' _ _ = w4 at *
        have c0 := hset.cell 0
        rw [slabC_0] at c0
        have c1 := hset.cell (1 + k)
        rw [slabC_at _ _ _ hlt] at c1
        have hup : upT x (k + 1) k = x.getLsbD k := by simp [upT]
        rw [hup] at c1
        cases hbk : x.getLsbD k
        · rw [hbk] at c1
          simp -implicitDefEqProofs [go_sem, h2, h4, h5, h6, hlt', hlt, c1, hw]
          refine goE_round ⟨k + 1, by omega, ?_⟩ ?_
          · simp -implicitDefEqProofs [go_sem, h2, h4]
            refine ⟨hR2, hset, fun i hi hb => ?_, bel'⟩
            by_cases e : i = k
            · subst e; rw [hbk] at hb; cases hb
            · exact hal i (by omega) hb
          · simp -implicitDefEqProofs [go_sem, intOf, h6, hw]; omega
        · rw [hbk] at c1
          simp -implicitDefEqProofs [go_sem, h2, h4, h5, h6, hlt', hlt, c0, c1]
          refine callE_of (refBlocks_calls (WM.kR x) w4) ?_
          rintro v w5 ⟨rfl, rfl⟩
          rw [WM.blocksI_nat]
          by_cases hge : WM.bl (WM.kR x) ≤ k
          · have hge' : (WM.bl (WM.kR x) : Int) ≤ k := by omega
            have hb : WM.rB x = false := by
              cases hb : WM.rB x
              · rfl
              · have := ((WM.rB_iff x).1 hb).2.1 k hlt hbk; omega
            have hst0 := stAll (P := Tryd.prog) hR2 (slabI' 0 noT) rfl (slabC_one _ _)
            have hR5 := hR2.row (slabC 0 noT)
            rw [slabC_zero] at hst0 hR5
            simp -implicitDefEqProofs [go_sem, h2, h4, h5, h6, hge, hge', ↓hst0]
            refine bodyCell 2 3 rfl (by simp -implicitDefEqProofs [go_sem, h2]) hR5 hst rfl slabI ?_
            rw [← slabC_zero]
            simp -implicitDefEqProofs [go_sem, WM.cR, hb, noT_eq x hb]
            exact Below.row bel' (by omega) _
          · have hge' : ¬ (WM.bl (WM.kR x) : Int) ≤ k := by omega
            simp -implicitDefEqProofs [go_sem, h2, h4, h5, h6, hge, hge', hw]
            refine goE_round ⟨k + 1, by omega, ?_⟩ ?_
            · simp -implicitDefEqProofs [go_sem, h2, h4]
              refine ⟨hR2, hset, fun i hi hb => ?_, bel'⟩
              by_cases e : i = k
              · subst e; omega
              · exact hal i (by omega) hb
            · simp -implicitDefEqProofs [go_sem, intOf, h6, hw]; omega
      · have hk' : k = 16 := by omega
        subst hk'
        have hU : slabC (WM.kR x) (upT x 16) = slabC (WM.kR x) (WM.bitsOf x) := slabC_congr fun i hi => by simp [upT, WM.bitsOf, hi]
        rw [hU] at hS
        have hcnt := WM.cnt_zero (WM.bitsOf x) 16
        have hrb := WM.rB_iff x
        simp -implicitDefEqProofs [go_sem, h2, h4, h5, h6]
        obtain ⟨S, hS'⟩ : ∃ S : World → Prop, S = fun w'' => Below w'.heap.size w' w'' := ⟨_, rfl⟩
        refine drawE_quiet S mixed (by decide +kernel) (by subst_vars; first | exact (Below.refl _ _).drew | assumption) (fun hsome => ?_)
        have hb : ∀ w'', S w'' → Below w'.heap.size w' w'' := fun w'' h => by rw [hS'] at h; exact h
        have hto : ∀ w', S w' → ∀ w'', Below w'.heap.size w' w'' → S w'' := fun w' h w'' h2 => by rw [hS'] at h ⊢; exact h.trans (h2.mono h.size)
        have kl := fun w'' h => ldAll (P := Tryd.prog) (hS.next (hb w'' h)) hst rfl slabI (slabC_size _ _)
        have kc := fun w'' h => (hS.next (hb w'' h)).cell 0
        simp only [slabC_0] at kc
        simp -implicitDefEqProofs +contextual [go_sem, hsome, h2, h4, ↓kl]
        refine onQuiet_call _ (fun w' hw => (count_calls (WM.kR x) (WM.bitsOf x) w').mono fun v w'' h => ⟨h.1, hto _ hw _ h.2⟩) ?_
        simp -implicitDefEqProofs +contextual [go_sem, hsome, h2, h4, kc]
        unfold endE
        intro w6 h6'
        have hR6 := hR.next (hb _ h6')
        have hS6 := hS.next (hb _ h6')
        have bel6 := bel.trans ((hb _ h6').mono bel.size)
        by_cases hrB : WM.rB x = true
        · have hq := (hrb.1 hrB).2.2
          have e1 : (((WM.cnt (WM.bitsOf x) 16 : Nat) : Int) == 0) = decide (WM.kR x = 0) := by
            rw [Bool.eq_iff_iff, beq_iff_eq, decide_eq_true_iff]
            exact ⟨fun h => hq.1 (hcnt.1 (by omega)), fun h => by have := hcnt.2 (hq.2 h); omega⟩
          have e2 : ((WM.kR x : Int) == 0) = decide (WM.kR x = 0) := by
            rw [Bool.eq_iff_iff, beq_iff_eq, decide_eq_true_iff]; omega
          have hT : slabC (WM.kR x) (WM.bitsOf x) = slabC (WM.kR x) (WM.tR x) := slabC_congr fun i hi => by simp [WM.tR, WM.bitsOf, hrB]
          simp -implicitDefEqProofs [go_sem, h2, h4, e1, e2, ↓ldAll hS6 hst rfl slabI (slabC_size _ _), ↓stAll hR6 (slabI' (WM.kR x) (WM.bitsOf x)) (by rw [slabC_size, slabC_size]) (slabC_one _ _)]
          refine bodyCell 2 3 rfl (by simp -implicitDefEqProofs [go_sem, h2]) (hR6.row (slabC (WM.kR x) (WM.bitsOf x))) hst rfl (slabI' _ _) ?_
          simp -implicitDefEqProofs [go_sem, WM.cR, hrB, hT]
          exact Below.row bel6 (by omega) _
        · have hrB' : WM.rB x = false := by simpa using hrB
          have e2 : ((WM.kR x : Int) == 0) = decide (WM.kR x = 0) := by
            rw [Bool.eq_iff_iff, beq_iff_eq, decide_eq_true_iff]; omega
          have e1 : (((WM.cnt (WM.bitsOf x) 16 : Nat) : Int) == 0) = !decide (WM.kR x = 0) := by
            by_cases hk0 : WM.kR x = 0
            · rw [decide_eq_true hk0, Bool.not_true, beq_eq_false_iff_ne]
              intro h
              exact hrB (hrb.2 ⟨hx, hal, fun _ => hk0, fun _ => hcnt.1 (by omega)⟩)
            · rw [decide_eq_false hk0, Bool.not_false, beq_iff_eq]
              apply Classical.byContradiction
              intro h
              exact hrB (hrb.2 ⟨hx, hal, fun h2 => by have := hcnt.2 h2; omega, fun h2 => absurd h2 hk0⟩)
          have hst0 := stAll (P := Tryd.prog) hR6 (slabI' 0 noT) rfl (slabC_one _ _)
          have hR7 := hR6.row (slabC 0 noT)
          rw [slabC_zero] at hst0 hR7
          simp -implicitDefEqProofs [go_sem, h2, h4, e1, e2, ↓hst0]
          refine bodyCell 2 3 rfl (by simp -implicitDefEqProofs [go_sem, h2]) hR7 hst rfl slabI ?_
          rw [← slabC_zero]
          simp -implicitDefEqProofs [go_sem, WM.cR, hrB', noT_eq x hrB']
          exact Below.row bel6 (by omega) _
end Go.Proofs.YtcaekgkogiggoaaDoor
