/- NvmB: texts in one: NvmWalk7, NvmWalk8, NvmBack, NvmCrash, NvmWalk9, NvmDev, PlainN. -/
import Derived.Test.YtkljlgahdlgmpaaNvmA
import Derived.Lib.SliceRun
import Derived.Test.YtkljlgahdlgmpaaDraws
import Derived.RangeFuncNested
import Derived.RangeFuncBound
import Derived.RangeFuncCalls
import Derived.RangeFuncLeaves
import Derived.Shelf.Abstract
import Derived.Shelf.RegionOpen
import Derived.WalkKit
import Derived.OwnWalkIn
import Derived.TacticsInMore
import Derived.LoopNIn
import Derived.LoopIn
/-! ### NvmWalk7 -/
namespace Go.Proofs.Ytkljlgahdlgmpaa
set_option linter.unusedVariables false
set_option linter.unusedSimpArgs false
open Go Go.RowKit

set_option maxRecDepth 10000 in
set_option linter.unusedSimpArgs false in
/-- A clone of changes: nothing of nothing; else in new memory. -/
theorem cloneC_calls (a : Option Addr) (n c : Nat) (xs : List Value) (w0 : World) (hn : n ≤ 1099511627776) (hl : xs.length = n * 2) (hsrc : SrcAt w0 a xs) (h1 : ∀ u ∈ xs, u.oneCell' = true) (hc : a = none → n = 0 ∧ c = 0) :
    Ret Try.prog 61 #[.slice a n c] w0 fun v w' => ∃ a' c', v = .slice a' n c' ∧ w'.ownsRow w0.heap.size 94 2 (.slice a' n c') n xs ∧ Below w0.heap.size w0 w' := by
  have nilEq := fun w a n c => Lib.run_eql_slice_nil (P := Try.prog) w 90 94 a n c 0 0 Try.underlying90
  refine ret_of (args := [_]) _ Try.func61 rfl Try.ntmps61 (by simp) ?_
  have bel0 := Below.refl w0.heap.size w0
  cases a with
  | none =>
    obtain ⟨rfl, rfl⟩ := hc rfl
    have hx : xs = [] := List.eq_nil_of_length_eq_zero (by omega)
    subst hx
    simp -implicitDefEqProofs [go_sem, nilEq]
    refine body_tmp 2 rfl ?_
    simp -implicitDefEqProofs [go_sem]
    exact ⟨none, 0, ⟨rfl, rfl⟩, World.ownsRow_nil _ _ _ _, bel0⟩
  | some x =>
    simp -implicitDefEqProofs [go_sem, nilEq]
    have hlit := World.ownsRow_lit (base := w0.heap.size) (e := 94) (size := 2) w0 #[] 0 (Nat.le_refl _) (by decide) rfl
    generalize hw1 : World.alloc w0 _ = w1 at *
    have sz1 : w1.heap.size = w0.heap.size + 1 := by rw [← hw1]; simp
    have b1 : Below w0.heap.size w0 w1 := by rw [← hw1]; exact bel0.alloc (Nat.le_refl _) _
    obtain ⟨ti, tz, hti, htz, hts, htb, htc⟩ := chgI
    have hcells : ∀ j u, xs[j]? = some u → w1.cell? (x.add j) = some u := by
      rcases hsrc with ⟨h, _⟩ | ⟨y, h, hy⟩
      · cases h
      · obtain rfl : x = y := by simpa using h
        intro j u hu
        have h2 := hy j u hu
        exact (b1.cell (World.block_lt_of_cell? w0 _ h2)).trans h2
    obtain ⟨v', w2, hr2, hown, hgr, _⟩ := run_append_own (P := Try.prog) w1 w0.heap.size 90 90 94 ti tz 2 16 Try.underlying90 hti htz hts htb htc (by decide) _ _ _ hlit x n c xs hl hcells h1 (by unfold maxLen; omega) (by omega) (by omega)
    rw [Nat.zero_add] at hown
    have b2 : Below w0.heap.size w0 w2 := b1.grown hgr (by omega) (fun j hj => by simp [Value.ownBlock] at hj; omega)
    obtain ⟨a', c', rfl⟩ : ∃ a' c', v' = .slice a' n c' := by
      rcases hown.2 with ⟨h, h0⟩ | ⟨g, cap, cur, h, _⟩
      · exact ⟨none, 0, by rw [h, h0]⟩
      · exact ⟨_, _, h⟩
    have hr3 : (appendB #[90, 90] 90 #[.slice (some ⟨w0.heap.size, 0, none⟩) 0 0, .slice (some x) n c]).run Try.prog w1 = .ok (.slice a' n c') w2 := hr2
    simp -implicitDefEqProofs [go_sem, hr3]
    refine body_tmp 2 rfl ?_
    simp -implicitDefEqProofs [go_sem]
    exact ⟨a', c', ⟨rfl, rfl⟩, by simpa using hown, b2⟩

/-- The changes from one on, as they lie. -/
theorem owns_drop {w : World} {B : Nat} {e : TypeId} {a : Option Addr} {n c k : Nat} {xs : List Value} (h : w.ownsRow B e 2 (.slice a n c) n xs) (hk : k ≤ n) :
    SrcAt w (if c = k then a else Option.map (fun x => x.add (k * 2)) a) (xs.drop (k * 2)) ∧ ((if c = k then a else Option.map (fun x => x.add (k * 2)) a) = none → n - k = 0 ∧ c - k = 0) := by
  have hlen := h.1
  rcases h.2 with ⟨hv, h0⟩ | ⟨g, cap, cur, hv, hg, hh, hcap, _⟩
  · simp only [Value.slice.injEq] at hv
    obtain ⟨rfl, _, rfl⟩ := hv
    subst h0
    have : xs = [] := List.eq_nil_of_length_eq_zero (by omega)
    subst this
    exact ⟨.inl ⟨by split <;> rfl, by simp⟩, fun _ => ⟨by omega, by omega⟩⟩
  · simp only [Value.slice.injEq] at hv
    obtain ⟨rfl, _, rfl⟩ := hv
    by_cases hck : c = k
    · subst hck
      have : xs.drop (c * 2) = [] := List.drop_eq_nil_of_le (by omega)
      rw [this, if_pos rfl]
      exact ⟨.inr ⟨_, rfl, fun j u hu => by simp at hu⟩, fun h => by cases h⟩
    · rw [if_neg hck]
      refine ⟨.inr ⟨_, rfl, fun j u hu => ?_⟩, fun h => by cases h⟩
      rw [List.getElem?_drop] at hu
      have := h.cells (g := g) rfl _ _ hu
      rw [Addr.add_lit] at this
      show w.cell? (((⟨g, 0, none⟩ : Addr).add (k * 2)).add j) = some u
      rw [Addr.add_lit, Addr.add_lit, ← this, Nat.add_assoc]

theorem chgCells_one (cs : List (Nat × BitVec 64)) : ∀ u ∈ chgCells cs, u.oneCell' = true := by
  intro u hu
  simp [chgCells] at hu
  obtain ⟨a, b, _, rfl | rfl⟩ := hu <;> rfl
theorem below_undrew {B : Nat} {w w' : World} (h : Below B w.drew w') : Below B w w' := ⟨h.os, h.tape, h.output, h.size, h.block⟩
theorem chgCells_drop : ∀ (cs : List (Nat × BitVec 64)) (k : Nat), chgCells (cs.drop k) = (chgCells cs).drop (k * 2)
  | cs, 0 => by simp
  | [], k + 1 => by simp [chgCells]
  | c :: cs, k + 1 => by
    rw [List.drop_succ_cons, chgCells_drop cs k, show (k + 1) * 2 = k * 2 + 1 + 1 by omega]
    simp [chgCells]
theorem ownsRow_base {w : World} {B B' : Nat} {e : TypeId} {k : Nat} {v : Value} {n : Nat} {xs : List Value} (h : w.ownsRow B e k v n xs) (hB : B' ≤ B) : w.ownsRow B' e k v n xs := by
  obtain ⟨h1, h2⟩ := h
  refine ⟨h1, ?_⟩
  rcases h2 with h2 | ⟨g, cap, cur, hv, hg, r⟩
  · exact .inl h2
  · exact .inr ⟨g, cap, cur, hv, by omega, r⟩
theorem setLn_same (D : NM.Dv) (i : Nat) (hi : i < D.ls.length) : D.setLn i (D.ln i) = D := by
  have : D.ln i = D.ls[i] := by simp [NM.Dv.ln, List.getD, hi]
  unfold NM.Dv.setLn; rw [this, List.set_getElem_self]

set_option maxHeartbeats 1000000 in
set_option linter.unusedSimpArgs false in
theorem lfence_calls {p lb : Nat} {D : NM.Dv} {S : Nat → Spot} (i : Nat) (w0 : World) (h : DevAt w0 p lb D S) (hi : i < D.ls.length) (hn : (D.ln i).chg.length ≤ 1099511627776) :
    Ret Try.prog 46 #[.pointer (some ⟨lb, i * 66, none⟩)] w0 fun v w' => v = .tuple #[] ∧ ∃ s', DevAt w' p lb (D.setLn i (D.ln i).fence) (setS S i s') ∧ Mod (fun k => k = lb) w0 w' ∧
      (∀ k, Value.ownBlock (spotV (D.ln i).fence s') = some k → Value.ownBlock (spotV (D.ln i) (S i)) = some k ∨ w0.heap.size ≤ k) := by
  obtain ⟨C, hL⟩ := h.lines
  have hl := NM.Dv.Ok0.ln h.ok i
  have g64 := hL.blk.cell (i * 66 + 64)
  rw [hL.chg i hi, spotV] at g64
  have g65 := hL.blk.cell (i * 66 + 65)
  rw [hL.mark i hi] at g65
  refine ret_of (args := [_]) _ Try.func46 rfl Try.ntmps46 (by simp) ?_
  by_cases hm : 0 < (D.ln i).mark
  · have hm' : (0 : Int) < (D.ln i).mark := by omega
    have hwm := IntWalk.i64_in (((D.ln i).mark : Int) - 1) (by have := hl.mark; omega)
    simp -implicitDefEqProofs [go_sem, g65, hm, hm']
    have c64 := fun w' (hw : Below w0.heap.size w0 w') => (hL.blk.next hw).cell (i * 66 + 64)
    have c65 := fun w' (hw : Below w0.heap.size w0 w') => (hL.blk.next hw).cell (i * 66 + 65)
    rw [hL.chg i hi, spotV] at c64
    rw [hL.mark i hi] at c65
    refine drawE_perm [0, 1, 2, 3, 4, 5, 6, 7, 8, 9, 10] [11] [12, 13, 14] (fun w' => Below w0.heap.size w0 w') mixed (by decide +kernel) (by decide +kernel) (by simp only [List.filterMap_cons, List.filterMap_nil, List.getElem?_cons_succ, List.getElem?_cons_zero]; rfl) (by simp only [List.filterMap_cons, List.filterMap_nil, List.getElem?_cons_succ, List.getElem?_cons_zero]; rfl) (by simp only [List.filterMap_cons, List.filterMap_nil, List.getElem?_cons_succ, List.getElem?_cons_zero]; rfl) (by first | exact (Below.refl _ _).drew | (subst_vars; exact (Below.refl _ _).drew)) (fun hsome => ?_)
    simp -implicitDefEqProofs [go_sem, hsome]
    refine onHeld_of (.slice (S i).1 (D.ln i).chg.length (S i).2) (fun w' hw => by simp -implicitDefEqProofs [go_sem, c64 w' hw]) ?_
    simp -implicitDefEqProofs [go_sem, hsome]
    refine onHeld_of (.int .i64 ((D.ln i).mark : Int)) (fun w' hw => by simp -implicitDefEqProofs [go_sem, c65 w' hw]) ?_
    simp -implicitDefEqProofs [go_sem, hsome, hwm]
    have hmk := hl.mark
    have hm1 : 1 ≤ (D.ln i).mark := by omega
    have hm2 : ((D.ln i).mark : Int) - 1 ≤ ((D.ln i).chg.length : Int) := by omega
    obtain ⟨k, hk⟩ : ∃ k, (D.ln i).mark = k + 1 := ⟨(D.ln i).mark - 1, by omega⟩
    have hkn : k ≤ (D.ln i).chg.length := by omega
    have hfe : (D.ln i).fence = { D.ln i with chg := (D.ln i).chg.drop k, mark := 0 } := by unfold NM.Ln.fence; rw [if_pos hm, hk]; rfl
    obtain ⟨hsrc, hnil⟩ := owns_drop (h.own i hi) hkn
    have hxl : ((chgCells (D.ln i).chg).drop (k * 2)).length = ((D.ln i).chg.length - k) * 2 := by rw [List.length_drop, (h.own i hi).1]; omega
    have hx1 : ∀ u ∈ (chgCells (D.ln i).chg).drop (k * 2), u.oneCell' = true := fun u hu => chgCells_one _ u (List.mem_of_mem_drop hu)
    have hcl := cloneC_calls _ ((D.ln i).chg.length - k) ((S i).2 - k) _ w0.drew (by omega) hxl hsrc hx1 hnil
    refine onHeld_of (.slice (if (S i).2 = k then (S i).1 else Option.map (fun x => x.add (k * 2)) (S i).1) ((D.ln i).chg.length - k) ((S i).2 - k)) (fun w' hw => by simp -implicitDefEqProofs [go_sem, hk, show ¬ ((k : Int) + 1 < 1) by omega, show k ≤ (D.ln i).chg.length by omega]) ?_
    simp -implicitDefEqProofs [go_sem, hsome]
    unfold endE
    simp -implicitDefEqProofs [go_sem]
    refine callE_of hcl ?_
    rintro v w1 ⟨a', c', rfl, hown, bel⟩
    have bel' : Below w0.heap.size w0 w1 := below_undrew bel
    refine ⟨bel', ?_⟩
    have hB1 := hL.blk.next bel'
    have f64 := hB1.thaw (i * 66 + 64)
    have f65 := hB1.thaw (i * 66 + 65)
    have g64 := hB1.cell (i * 66 + 64)
    rw [hL.chg i hi, spotV] at g64
    have hB2 := hB1.set (i * 66 + 64) (.slice a' ((D.ln i).chg.length - k) c')
    have f65' := hB2.thaw (i * 66 + 65)
    have g65 := hB2.cell (i * 66 + 65)
    rw [Array.getElem?_setIfInBounds, if_neg (by omega), hL.mark i hi] at g65
    have hB3 := hB2.set (i * 66 + 65) (.int .i64 0)
    simp -implicitDefEqProofs [go_sem, f64, f65, g64, g65, f65']
    refine body_end (body_none rfl ?_)
    have hmL : Mod (fun k => k = lb) w1 ((w1.setCell ⟨lb, i * 66 + 64, none⟩ (.slice a' ((D.ln i).chg.length - k) c')).setCell ⟨lb, i * 66 + 65, none⟩ (.int .i64 0)) := ((Mod.refl (fun k => k = lb) w1).setCell (a := ⟨lb, i * 66 + 64, none⟩) (.inl rfl) _).setCell (a := ⟨lb, i * 66 + 65, none⟩) (.inl rfl) _
    have hmA : Mod (fun k => k = lb) w0 _ := (Mod.of bel').trans hmL (fun k hk _ => hk)
    have hlbw := hL.blk.lt
    have howns := ownsRow_mod hown hmL (fun g hg e => by have := (hown.lt g hg).1; have : w0.drew.heap.size = w0.heap.size := rfl; omega)
    have hCs : i * 66 + 66 ≤ C.size := by rw [hL.size]; omega
    have hsp : spotV (D.ln i).fence (a', c') = .slice a' ((D.ln i).chg.length - k) c' := by unfold spotV; rw [hfe]; simp
    have hwh : ∀ k, Value.ownBlock (spotV (D.ln i).fence (a', c')) = some k → Value.ownBlock (spotV (D.ln i) (S i)) = some k ∨ w0.heap.size ≤ k := fun g hg => by
      rw [hsp] at hg
      exact .inr (hown.lt g hg).1
    have hg : ∀ j, ((C.setIfInBounds (i * 66 + 64) (.slice a' ((D.ln i).chg.length - k) c')).setIfInBounds (i * 66 + 65) (.int .i64 0))[j]? = if j = i * 66 + 65 then some (.int .i64 0) else if j = i * 66 + 64 then some (.slice a' ((D.ln i).chg.length - k) c') else C[j]? := fun j => by
      rw [Array.getElem?_setIfInBounds, Array.getElem?_setIfInBounds]
      by_cases e : j = i * 66 + 65
      · subst e; rw [if_pos rfl, if_pos rfl, if_pos (by simp; omega)]
      · rw [if_neg (fun e2 => e e2.symm), if_neg e]
        by_cases e2 : j = i * 66 + 64
        · subst e2; rw [if_pos rfl, if_pos rfl, if_pos (by omega)]
        · rw [if_neg (fun e3 => e2 e3.symm), if_neg e2]
    refine ⟨rfl, (a', c'), ?_, hmA, hwh⟩
    refine h.setLine hL hi hl.fence hB3 (by simp) (fun j hj => by rw [hg, if_neg (by omega), if_neg (by omega)]) (fun j hj => by rw [hg, if_neg (by omega), if_neg (by omega), hfe]; exact hL.now i hi j hj)
      (by rw [hg, if_neg (by omega), if_pos rfl, hsp]) (by rw [hg, if_pos rfl, hfe]; rfl) hmA (fun k hk => .inl hk) ?_ hwh
    rw [hsp, hfe]
    have e1 : chgCells ((D.ln i).chg.drop k) = (chgCells (D.ln i).chg).drop (k * 2) := chgCells_drop _ _
    rw [e1, List.length_drop]
    exact ownsRow_base howns (Nat.zero_le _)
  · have hm' : ¬ (0 : Int) < (D.ln i).mark := by omega
    have hf : (D.ln i).fence = D.ln i := by unfold NM.Ln.fence; rw [if_neg hm]
    simp -implicitDefEqProofs [go_sem, g65, hm, hm']
    refine body_end (body_none rfl ?_)
    rw [hf, setLn_same D i hi]
    exact ⟨rfl, S i, by rw [setS_same]; exact h, Mod.refl _ _, fun k hk => .inl hk⟩
end Go.Proofs.Ytkljlgahdlgmpaa

/-! ### NvmWalk8 -/
namespace Go.Proofs.Ytkljlgahdlgmpaa
set_option linter.unusedVariables false
set_option linter.unusedSimpArgs false
open Go Go.RowKit

def fenceK (D : NM.Dv) (k : Nat) : NM.Dv := { D with ls := (D.ls.take k).map NM.Ln.fence ++ D.ls.drop k }
theorem fenceK_zero (D : NM.Dv) : fenceK D 0 = D := by simp [fenceK]
theorem fenceK_all (D : NM.Dv) : fenceK D D.ls.length = { D with ls := D.ls.map NM.Ln.fence } := by simp [fenceK]
theorem fenceK_len (D : NM.Dv) (k : Nat) (hk : k ≤ D.ls.length) : (fenceK D k).ls.length = D.ls.length := by simp [fenceK]; omega
theorem fenceK_ln (D : NM.Dv) (k : Nat) (hk : k < D.ls.length) : (fenceK D k).ln k = D.ln k := by
  unfold NM.Dv.ln fenceK
  simp only [List.getD_eq_getElem?_getD]
  rw [List.getElem?_append_right (by simp; omega)]
  simp; congr 2; omega
theorem fenceK_succ (D : NM.Dv) (k : Nat) (hk : k < D.ls.length) : (fenceK D k).setLn k ((fenceK D k).ln k).fence = fenceK D (k + 1) := by
  rw [fenceK_ln D k hk]
  have e : D.ln k = D.ls[k] := by simp [NM.Dv.ln, List.getD, hk]
  unfold NM.Dv.setLn fenceK
  simp only [NM.Dv.mk.injEq, and_true]
  rw [List.set_append_right _ _ (by simp; omega), List.take_succ_eq_append_getElem hk, List.map_append, List.append_assoc]
  congr 1
  have hl : ((D.ls.take k).map NM.Ln.fence).length = k := by simp; omega
  rw [hl, Nat.sub_self, List.drop_eq_getElem_cons hk, e]; rfl

set_option maxHeartbeats 1000000 in
set_option linter.unusedSimpArgs false in
theorem fence_calls {p lb : Nat} {D : NM.Dv} {S : Nat → Spot} (w0 : World) (h : DevAt w0 p lb D S) (hc : D.steps < 1099511627776) (hok : D.Ok) :
    Ret Try.prog 18 #[.pointer (some ⟨p, 0, none⟩)] w0 fun v w' => v = .int .i64 D.fence.2 ∧ DevStep w0 p lb D S D.fence.1 w' := by
  have hmost := h.ok.most
  refine ret_of (args := [_]) _ Try.func18 rfl Try.ntmps18 (by simp) ?_
  simp -implicitDefEqProofs [go_sem]
  refine callE_of (ask_calls 0 1 w0 h (by decide)) ?_
  rintro v w1 ⟨rfl, rfl⟩
  by_cases ha : D.ask 0 1 = 0
  · have hfn : D.fence = (({ D with ls := D.ls.map NM.Ln.fence } : NM.Dv).done, 0) := by unfold NM.Dv.fence; rw [if_pos ha]
    simp -implicitDefEqProofs [go_sem, ha, h.dev.cell]
    refine wpE_loop (fun e' w' => ∃ k, k ≤ D.ls.length ∧ e' 0 = .pointer (some ⟨p, 0, none⟩) ∧ e' 14 = .int .i64 D.ls.length ∧ e' 15 = .int .i64 k ∧ DevStep w1 p lb D S (fenceK D k) w') (fun e' _ => D.ls.length - (intOf (e' 15)).toNat) ?_ ?_
    · refine ⟨0, by omega, ?_⟩
      simp -implicitDefEqProofs [go_sem, fenceK_zero]
      exact DevStep.refl h
    · rintro e' w' ⟨k, hk, g0, g14, g15, S', hA, hm, hw⟩
      have hlk := fenceK_len D k hk
      by_cases hlt : k < D.ls.length
      · have hlt' : (k : Int) < D.ls.length := by omega
        have hwk := IntWalk.i64_in ((k : Int) + 1) (by omega)
        have hdev := hA.dev
        rw [hlk] at hdev
        have hlf := lfence_calls k w' hA (by omega) (by rw [fenceK_ln D k hlt]; have := NM.Dv.Ok.lnChg hok k; omega)
        simp -implicitDefEqProofs [go_sem, g0, g14, g15, hlt, hlt', hdev.cell]
        refine callE_of hlf ?_
        rintro v w2 ⟨rfl, s', hA2, hm2, hwh2⟩
        rw [fenceK_succ D k hlt] at hA2
        simp -implicitDefEqProofs [go_sem, g0, g14, g15, hwk]
        refine goE_round ⟨k + 1, by omega, ?_⟩ ?_
        · simp -implicitDefEqProofs [go_sem, g0, g14]
          refine DevStep.head hA hm hw ⟨_, hA2, hm2.mono (fun k hk _ => .inr (.inl hk)), ?_⟩
          have := setLine_F (p := p) (lb := lb) (D := fenceK D k) (S := S') (i := k) (l' := ((fenceK D k).ln k).fence) (s' := s') (w := w') (by omega) hwh2
          rw [fenceK_succ D k hlt] at this
          exact this
        · simp -implicitDefEqProofs [go_sem, intOf, g15, hwk]; omega
      · have hk' : k = D.ls.length := by omega
        subst hk'
        rw [fenceK_all] at *
        simp -implicitDefEqProofs [go_sem, g0, g14, g15]
        refine callE_of (done_calls w' hA (by exact hc)) ?_
        rintro v w2 ⟨rfl, hA2, hmd, _⟩
        simp -implicitDefEqProofs [go_sem]
        refine body_tmp 2 rfl ?_
        simp -implicitDefEqProofs [go_sem, hfn]
        exact DevStep.head hA hm hw (step_done hA2 hmd)
  · have ha' : (D.ask 0 1 != 0) = true := by rw [bne_iff_ne]; exact ha
    simp -implicitDefEqProofs [go_sem, ha, ha']
    refine body_tmp 2 rfl ?_
    simp -implicitDefEqProofs [go_sem, NM.Dv.fence, ha]
    exact DevStep.refl h
end Go.Proofs.Ytkljlgahdlgmpaa

/-! ### NvmBack -/
namespace Go.Proofs.Ytkljlgahdlgmpaa
set_option linter.unusedVariables false
set_option linter.unusedSimpArgs false
open Go Go.RowKit Go.Shelf

attribute [local go_sem] Oper.semAt_some

/-- A change that may be. -/
abbrev Chg := { x : Nat × BitVec 64 // ∃ q, x.1 = 8 * q ∧ q < 8 }
/-- What the iterator reads: its two boxes, the line's changes. -/
structure BackOk (Bl Bc lb q k : Nat) (a : Option Addr) (c : Nat) (cs : List Chg) (W : World) : Prop where
  l : W.cell? ⟨Bl, 0, none⟩ = some (.pointer (some ⟨lb, q, none⟩))
  k : W.cell? ⟨Bc, 0, none⟩ = some (.int .i64 (k : Int))
  s : W.cell? ⟨lb, q + 64, none⟩ = some (.slice a cs.length c)
  c : ∀ j (h : j < cs.length), ∃ g, a = some ⟨g, 0, none⟩ ∧ W.cell? ⟨g, j * 2, none⟩ = some (.int .i64 (cs[j].1.1 : Int)) ∧ W.cell? ⟨g, j * 2 + 1, none⟩ = some (.int .u64 (uv cs[j].1.2))
def encC (x : Chg) : Array Value := #[.agg #[.int .i64 (x.1.1 : Int), .int .u64 (uv x.1.2)]]

set_option maxRecDepth 100000 in
set_option maxHeartbeats 1000000 in
theorem back1_in (n : Nat) (hn : 1 ≤ n) (l Bl Bc lb q k : Nat) (a : Option Addr) (c : Nat) (cs : List Chg) (hk : k ≤ cs.length) (hcs : cs.length ≤ 1099511627776) (J Jx : List Chg → World → Prop)
    (hY : ∀ pre x W, J pre W → pre.length < (cs.drop k).reverse.length → YieldAt Fence.wide (n - 1) Try.prog l (encC x) W fun e W' =>
      (e = .returned (.bool true) ∧ J (pre ++ [x]) W' ∧ (BackOk Bl Bc lb q k a c cs W → BackOk Bl Bc lb q k a c cs W')) ∨ (e = .returned (.bool false) ∧ Jx (pre ++ [x]) W'))
    (W : World) (hB : BackOk Bl Bc lb q k a c cs W) (h0 : J [] W) :
    CallsIn Fence.wide n Try.prog 67 #[.func (.yield l) #[] #[], .pointer (some ⟨Bl, 0, none⟩), .pointer (some ⟨Bc, 0, none⟩)] W fun e W' => (∃ v, e = .returned v) ∧
      ((∃ ys, ys = (cs.drop k).reverse ∧ J ys W') ∨ (∃ pre, pre <+: (cs.drop k).reverse ∧ Jx pre W')) := by
  refine callsIn_of_wp Try.func67 rfl trivial ?_ rfl
  simp only [Try.ntmps67, List.size_toArray, List.length_cons, List.length_nil, Nat.reduceAdd, Nat.reduceSub, Array.replicate_succ, Array.replicate_zero, List.push_toArray, List.append_toArray, List.nil_append, List.cons_append]
  have hBl := hB.l
  have hBc := hB.k
  have hBs := hB.s
  have hL : (cs.drop k).reverse.length = cs.length - k := by simp
  gi_wp2
  gi_loopw [4] (fun z wr => ∃ m, m ≤ cs.length - k ∧ z = .int .i64 ((k : Int) + m - 1) ∧ BackOk Bl Bc lb q k a c cs wr ∧ J ((cs.drop k).reverse.take (cs.length - k - m)) wr)
    (fun z _ => (intOf z + 1 - k).toNat)
  case atStart =>
    exact ⟨cs.length - k, Nat.le_refl _, by congr 1; omega, hB, by simpa using h0⟩
  case round =>
    obtain ⟨m, hm, rfl, hBr, hJr⟩ := hrel
    clear hBl hBc hBs
    have hBl := hBr.l
    have hBc := hBr.k
    have hBs := hBr.s
    cases m with
    | zero =>
      have hc1 : ¬ ((k : Int) ≤ (k : Int) + ((0 : Nat) : Int) - 1) := by omega
      gi_wp2
      go_end0
      rw [Nat.sub_zero, ← hL, List.take_length] at hJr
      first | exact hJr | exact ⟨⟨_, rfl⟩, .inl hJr⟩ | exact .inl hJr
    | succ m =>
      have hlt : k + m < cs.length := by omega
      have hz : (k : Int) + ((m + 1 : Nat) : Int) - 1 = ((k + m : Nat) : Int) := by omega
      have hz0 : (k : Int) ≤ ((k + m : Nat) : Int) := by omega
      have hz1 : ((k + m : Nat) : Int) < (cs.length : Int) := by omega
      have hz2 : (0 : Int) ≤ ((k + m : Nat) : Int) := by omega
      have hw := IntWalk.i64_in (((k + m : Nat) : Int) - 1) (by omega)
      have hz3 : ((k + m : Nat) : Int) - 1 = (k : Int) + m - 1 := by omega
      have hx : (cs.drop k).reverse[cs.length - k - (m + 1)]? = some cs[k + m] := by
        rw [List.getElem?_reverse (by simp; omega), List.length_drop, List.getElem?_drop, show k + (cs.length - k - 1 - (cs.length - k - (m + 1))) = k + m by omega, List.getElem?_eq_getElem hlt]
      have htk : (cs.drop k).reverse.take (cs.length - k - (m + 1)) ++ [cs[k + m]] = (cs.drop k).reverse.take (cs.length - k - m) := by
        rw [show cs.length - k - m = cs.length - k - (m + 1) + 1 by omega, List.take_add_one, hx]; rfl
      obtain ⟨g, hga, hg1, hg2⟩ := hBr.c (k + m) hlt
      obtain ⟨fn, tmps, assign, body, hy, hR⟩ := hY _ cs[k + m] wr hJr (by rw [List.length_take, hL]; omega)
      dsimp only [encC] at hy
      rw [htk] at hR
      rw [hz]
      subst hga
      generalize hKM : k + m = KM at *
      gi_wp2
      refine hR.mono ?_
      rintro e W3 (⟨rfl, hJ3, hk3⟩ | ⟨rfl, hJx3⟩)
      · gi_wp2
        go_roundw
        case rel => exact ⟨m, by omega, by first | rfl | rw [hz3], hk3 hBr, hJ3⟩
        case measure => simp [intOf]; omega
      · gi_wp2
        refine bodyPost_ret (results_none rfl _ _ _) rfl ?_
        exact ⟨⟨_, rfl⟩, .inr ⟨_, List.take_prefix _ _, hJx3⟩⟩

theorem back_stops (n : Nat) (hn : 1 ≤ n) (Bl Bc lb q k : Nat) (a : Option Addr) (c : Nat) (cs : List Chg) (hk : k ≤ cs.length) (hcs : cs.length ≤ 1099511627776) (w : World) (hB : ∀ W, Below w.heap.size w W → BackOk Bl Bc lb q k a c cs W) :
    SeqStopsK Fence.wide n Try.prog 67 #[.pointer (some ⟨Bl, 0, none⟩), .pointer (some ⟨Bc, 0, none⟩)] encC (fun W W' => BackOk Bl Bc lb q k a c cs W → BackOk Bl Bc lb q k a c cs W') (fun ys => ys = (cs.drop k).reverse) (fun pre => pre <+: (cs.drop k).reverse) (cs.drop k).reverse.length w :=
  fun l J Jx W hW _ _ hY h0 => back1_in n hn l Bl Bc lb q k a c cs hk hcs J Jx hY W (hB W hW) h0

set_option linter.unusedSimpArgs false in
theorem back_calls (lb q k : Nat) (w0 : World) : Ret Try.prog 62 #[.pointer (some ⟨lb, q, none⟩), .int .i64 (k : Int)] w0 fun v w' =>
    v = .func (.func 67) #[] #[.pointer (some ⟨w0.heap.size, 0, none⟩), .pointer (some ⟨w0.heap.size + 1, 0, none⟩)] ∧ w' = (w0.alloc (.cells #[.pointer (some ⟨lb, q, none⟩)] 88)).alloc (.cells #[.int .i64 (k : Int)] 3) := by
  refine ret_of (args := [_, _]) _ Try.func62 rfl Try.ntmps62 (by simp) ?_
  simp -implicitDefEqProofs [go_sem]
  refine body_tmp 4 rfl ?_
  simp -implicitDefEqProofs [go_sem]
end Go.Proofs.Ytkljlgahdlgmpaa

/-! ### NvmCrash -/
namespace Go.Proofs.Ytkljlgahdlgmpaa
set_option linter.unusedVariables false
set_option linter.unusedSimpArgs false
open Go Go.RowKit Go.Shelf

attribute [local go_sem] Oper.semAt_some

/-- The changes undone, one behind the other. -/
def undoF (cs : List (Nat × BitVec 64)) (b : List (BitVec 8)) : List (BitVec 8) := cs.foldl (fun b c => WM.putM b c.1 c.2) b
theorem undoF_snoc (cs : List (Nat × BitVec 64)) (c : Nat × BitVec 64) (b : List (BitVec 8)) : undoF (cs ++ [c]) b = WM.putM (undoF cs b) c.1 c.2 := by simp [undoF]
theorem undoF_all (cs : List (Nat × BitVec 64)) (b : List (BitVec 8)) : undoF cs.reverse b = NM.undo cs b := by simp [undoF, NM.undo]
theorem undoF_length (cs : List (Nat × BitVec 64)) : ∀ (b : List (BitVec 8)), (undoF cs b).length = b.length := by
  induction cs with
  | nil => intro b; rfl
  | cons c cs ih => intro b; show (undoF cs _).length = _; rw [ih, WM.putM_length]
def undoD (D : NM.Dv) (i : Nat) (pre : List (Nat × BitVec 64)) : NM.Dv := D.setLn i { D.ln i with now := undoF pre (D.ln i).now }
theorem undoD_nil (D : NM.Dv) (i : Nat) (hi : i < D.ls.length) : undoD D i [] = D := by
  show D.setLn i { D.ln i with now := (D.ln i).now } = D
  exact setLn_same D i hi
theorem undoD_ln (D : NM.Dv) (i : Nat) (hi : i < D.ls.length) (pre : List (Nat × BitVec 64)) : (undoD D i pre).ln i = { D.ln i with now := undoF pre (D.ln i).now } := by
  unfold undoD; rw [NM.Dv.setLn_ln D i _ hi, if_pos rfl]
theorem undoD_len (D : NM.Dv) (i : Nat) (pre : List (Nat × BitVec 64)) : (undoD D i pre).ls.length = D.ls.length := NM.Dv.setLn_len _ _ _
theorem undoD_snoc (D : NM.Dv) (i : Nat) (hi : i < D.ls.length) (pre : List (Nat × BitVec 64)) (x : Nat × BitVec 64) :
    (undoD D i pre).setLn i { (undoD D i pre).ln i with now := WM.putM ((undoD D i pre).ln i).now x.1 x.2 } = undoD D i (pre ++ [x]) := by
  rw [undoD_ln D i hi]
  unfold undoD
  rw [setLn_setLn, undoF_snoc]

theorem undoD_snoc' (D : NM.Dv) (i : Nat) (hi : i < D.ls.length) (pre : List Chg) (x : Chg) :
    (undoD D i (pre.map (·.1))).setLn i { (undoD D i (pre.map (·.1))).ln i with now := WM.putM ((undoD D i (pre.map (·.1))).ln i).now x.1.1 x.1.2 } = undoD D i ((pre ++ [x]).map (·.1)) := by
  rw [undoD_snoc D i hi, List.map_append]; rfl
theorem boxed_later {W W' : World} {B : Nat} {t : TypeId} {v : Value} (h : Boxed W B t v) (hb : Below W.heap.size W W') : Boxed W' B t v := (hb.block B h.lt).trans h
theorem mod_of_grown {W W' : World} {row : Option Nat} (hg : W.grownBy W' row) : Mod (fun k => row = some k) W W' := ⟨hg.os, hg.tape, hg.output, hg.size, fun k hlt hk => hg.block k hlt (fun e => hk e.symm)⟩
theorem DevAt.lb_lt {w : World} {p lb : Nat} {D : NM.Dv} {S : Nat → Spot} (h : DevAt w p lb D S) : lb < w.heap.size := h.lt lb (.inr (.inl rfl))
/-- A device lies in cells alone. -/
theorem devAt_own {β : Type} (p lb : Nat) (f : β → NM.Dv) (S : Nat → Spot) : Own (fun s W => DevAt W p lb (f s) S) := fun s X Y row hs hg hrow => by
  refine hs.mod (mod_of_grown hg) (fun k hk e => ?_)
  obtain ⟨o, ho, hc⟩ := hrow k e
  have hcell : ∃ C t f, X.heap[k]? = some (.cells C t f) := by
    rcases hk with rfl | rfl | ⟨i, hi, hk⟩
    · exact ⟨_, _, _, hs.dev⟩
    · obtain ⟨C, hC⟩ := hs.lines; exact ⟨_, _, _, hC.blk⟩
    · rcases (hs.own i hi).2 with ⟨h, _⟩ | ⟨g, cap, cur, hv, _, hh, _⟩
      · rw [h] at hk; cases hk
      · rw [hv] at hk; cases hk; exact ⟨_, _, _, hh⟩
  obtain ⟨C, t, f, h⟩ := hcell
  rw [h] at ho; cases ho; cases hc
theorem modAt_own {β : Type} {B : Nat} (F : Nat → Prop) (w0 : World) (hB : w0.heap.size ≤ B) : OwnFrom B (fun (_ : β) W => Mod F w0 W) := fun s X Y row hs hg hrow =>
  hs.grown hg (fun k hk => .inr (by have := (hrow k hk).1; omega))
theorem blk_own {β : Type} (B : Nat) (t : TypeId) (f : β → Array Value) : Own (fun s W => Blk W B (f s) t) := fun s X Y row hs hg hrow =>
  (hg.block B hs.lt (fun e => by obtain ⟨o, ho, hc⟩ := hrow B e.symm; rw [show X.heap[B]? = _ from hs] at ho; cases ho; cases hc)).trans hs
theorem chgCells_get : ∀ (cs : List (Nat × BitVec 64)) (j : Nat) (h : j < cs.length), (chgCells cs)[j * 2]? = some (.int .i64 (cs[j].1 : Int)) ∧ (chgCells cs)[j * 2 + 1]? = some (.int .u64 (uv cs[j].2))
  | [], j, h => by cases h
  | c :: cs, 0, h => by simp [chgCells]
  | c :: cs, j + 1, h => by
    have := chgCells_get cs j (by simpa using h)
    rw [show (j + 1) * 2 = j * 2 + 1 + 1 by omega]
    simpa [chgCells] using this
theorem back_ok {W : World} {p lb : Nat} {D : NM.Dv} {S : Nat → Spot} (h : DevAt W p lb D S) {i : Nat} (hi : i < D.ls.length) {cs : List Chg} (hcs : (D.ln i).chg = cs.map (·.1)) {Bl Bc k : Nat} {t t' : TypeId} (hl : Boxed W Bl t (.pointer (some ⟨lb, i * 66, none⟩))) (hc : Boxed W Bc t' (.int .i64 (k : Int))) :
    BackOk Bl Bc lb (i * 66) k (S i).1 (S i).2 cs W := by
  have hlen : (D.ln i).chg.length = cs.length := by rw [hcs, List.length_map]
  obtain ⟨C, hL⟩ := h.lines
  refine ⟨hl.cell, hc.cell, by rw [hL.blk.cell, hL.chg i hi, ← hlen]; rfl, fun j hj => ?_⟩
  have hown := h.own i hi
  rcases hown.2 with ⟨hv, h0⟩ | ⟨g, cap, cur, hv, _, hh, _⟩
  · omega
  · simp only [spotV, Value.slice.injEq] at hv
    obtain ⟨hv, _, _⟩ := hv
    obtain ⟨h1, h2⟩ := chgCells_get (D.ln i).chg j (by omega)
    have hcj : (D.ln i).chg[j]'(by omega) = cs[j].1 := by simp [hcs]
    rw [hcj] at h1 h2
    have hg : spotV (D.ln i) (S i) = .slice (some ⟨g, 0, none⟩) (D.ln i).chg.length (S i).2 := by unfold spotV; rw [hv]
    rw [hg] at hown
    have c1 := hown.cells (g := g) rfl _ _ h1
    have c2 := hown.cells (g := g) rfl _ _ h2
    rw [Addr.add_lit, Nat.zero_add] at c1 c2
    exact ⟨g, hv, c1, c2⟩

set_option maxRecDepth 100000 in
set_option maxHeartbeats 4000000 in
theorem crash_in {p lb : Nat} {D : NM.Dv} {S : Nat → Spot} (n : Nat) (hn : 6 ≤ n) (i k : Nat) (w0 : World) (h : DevAt w0 p lb D S) (hi : i < D.ls.length) (hk : k ≤ (D.ln i).chg.length) (hcs : (D.ln i).chg.length ≤ 1099511627776) :
    CallsIn Fence.wide n Try.prog 47 #[.pointer (some ⟨lb, i * 66, none⟩), .int .i64 (k : Int)] w0 fun e w' => e = .returned (.tuple #[]) ∧ DevAt w' p lb (D.setLn i ((D.ln i).crash k)) (setS S i (none, 0)) ∧ Mod (fun k => k = lb) w0 w' := by
  have h1 : 1 ≤ n := by omega
  obtain ⟨cs, hcv⟩ : ∃ cs : List Chg, (D.ln i).chg = cs.map (·.1) := ⟨(D.ln i).chg.pmap Subtype.mk (NM.Dv.Ok0.ln h.ok i).at_, by rw [List.map_pmap]; simp⟩
  have hlen : (D.ln i).chg.length = cs.length := by rw [hcv, List.length_map]
  rw [hlen] at hk hcs
  refine callsIn_of_wp_marks Try.func47 rfl trivial ?_ rfl
  simp only [Try.ntmps47, List.size_toArray, List.length_cons, List.length_nil, Nat.reduceAdd, Nat.reduceSub, Array.replicate_succ, Array.replicate_zero, List.push_toArray, List.append_toArray, List.nil_append, List.cons_append]
  gi_wp2_with (refine ⟨trivial, ?_⟩; gi_at_call 62; refine (callsIn_wide.2 (back_calls lb (i * 66) k _)).mono ?_; rintro e w' ⟨v, rfl, rfl, rfl⟩)
  have bA := ((Boxed.new w0 88 (.pointer (some ⟨lb, i * 66, none⟩))).alloc (.cells #[.pointer (some ⟨lb, i * 66, none⟩)] 88)).alloc (.cells #[.int .i64 (k : Int)] 3)
  have bL := (Boxed.new (w0.alloc (.cells #[.pointer (some ⟨lb, i * 66, none⟩)] 88)) 88 (.pointer (some ⟨lb, i * 66, none⟩))).alloc (.cells #[.int .i64 (k : Int)] 3)
  have bC := Boxed.new ((w0.alloc (.cells #[.pointer (some ⟨lb, i * 66, none⟩)] 88)).alloc (.cells #[.pointer (some ⟨lb, i * 66, none⟩)] 88)) 3 (.int .i64 (k : Int))
  simp only [World.size_alloc] at bL bC
  have hB0 : Below w0.heap.size w0 (((w0.alloc (.cells #[.pointer (some ⟨lb, i * 66, none⟩)] 88)).alloc (.cells #[.pointer (some ⟨lb, i * 66, none⟩)] 88)).alloc (.cells #[.int .i64 (k : Int)] 3)) := (((Below.refl _ w0).alloc (Nat.le_refl _) _).alloc (by simp) _).alloc (by simp; omega) _
  have hsz : (((w0.alloc (.cells #[.pointer (some ⟨lb, i * 66, none⟩)] 88)).alloc (.cells #[.pointer (some ⟨lb, i * 66, none⟩)] 88)).alloc (.cells #[.int .i64 (k : Int)] 3)).heap.size = w0.heap.size + 3 := by simp
  try simp only [World.size_alloc]
  obtain ⟨W0, hW0⟩ : ∃ W0, (((w0.alloc (.cells #[.pointer (some ⟨lb, i * 66, none⟩)] 88)).alloc (.cells #[.pointer (some ⟨lb, i * 66, none⟩)] 88)).alloc (.cells #[.int .i64 (k : Int)] 3)) = W0 := ⟨_, rfl⟩
  rw [hW0] at bA bL bC hB0 hsz ⊢
  clear hW0
  have hD0 := h.next hB0
  have hlbw := h.lb_lt
  refine wpIn_rangeFunc_ownH (α := Chg) rfl h1 (gf := 67) (lb := #[.pointer (some ⟨w0.heap.size + 1, 0, none⟩), .pointer (some ⟨w0.heap.size + 1 + 1, 0, none⟩)]) rfl trivial (enters_of Try.func67 (by kernel_rfl) rfl)
    (back_stops (n - 1) (by omega) (w0.heap.size + 1) (w0.heap.size + 1 + 1) lb (i * 66) k (S i).1 (S i).2 cs hk hcs W0 ?hstart) (fun h1 h2 => h2 ∘ h1) ?hKb (Below.refl _ _) (fun _ => rfl)
    (fun pre W => (DevAt W p lb (undoD D i (pre.map (·.1))) S ∧ Boxed W w0.heap.size 88 (.pointer (some ⟨lb, i * 66, none⟩)) ∧ Boxed W (w0.heap.size + 1) 88 (.pointer (some ⟨lb, i * 66, none⟩)) ∧ Boxed W (w0.heap.size + 1 + 1) 3 (.int .i64 (k : Int))) ∧ Mod (fun k => k = lb) w0 W)
    (fun _ _ _ => False)
    (OwnFrom.and (OwnFrom.and (Own.from (devAt_own _ _ _ _) _) (OwnFrom.and (Own.from (boxed_own _ _ _) _) (OwnFrom.and (Own.from (boxed_own _ _ _) _) (Own.from (boxed_own _ _ _) _)))) (modAt_own _ _ (by omega)))
    (fun _ _ _ _ _ hs _ _ => hs)
    ⟨⟨by rw [List.map_nil, undoD_nil D i hi]; exact hD0, bA, bL, bC⟩, Mod.of hB0⟩
    (fun x a' W => ∃ Bx, w0.heap.size + 2 < Bx ∧ Blk W Bx #[.int .i64 (x.1.1 : Int), .int .u64 (uv x.1.2)] 94 ∧ a' = { tmps := #[.pointer (some ⟨lb, i * 66, none⟩), .int .i64 (k : Int), .pointer (some ⟨w0.heap.size, 0, none⟩), undef, .pointer (some ⟨Bx, 0, none⟩), .pointer (some ⟨lb, i * 66, none⟩), .int .i64 (k : Int), .func (.func 67) #[] #[.pointer (some ⟨w0.heap.size + 1, 0, none⟩), .pointer (some ⟨w0.heap.size + 1 + 1, 0, none⟩)], .agg #[.int .i64 (x.1.1 : Int), .int .u64 (uv x.1.2)], undef, undef, undef, undef, undef, undef, undef, undef, undef, undef, undef, undef], defers := [] })
    (fun x a' _ X Y row hs hg hr => by obtain ⟨Bx, h1, h2, h3⟩ := hs; exact ⟨Bx, h1, blk_own Bx 94 (fun (_ : Unit) => _) () X Y row h2 hg (fun r e => (hr r e).2), h3⟩)
    ?assign ?body ?done ?stop
  case hstart => exact fun W hW => back_ok (h.next (hB0.trans (hW.mono (by omega)))) hi hcv (boxed_later bL hW) (boxed_later bC hW)
  case hKb =>
    intro W l o o' hl ho hoc _ hok
    have hg := grownBy_putObj' W l o'
    have hr : ∀ r, some l = some r → ∃ o : Obj, W.heap[r]? = some o ∧ o.isCells = false := fun r e => by cases e; exact ⟨o, ho, hoc⟩
    refine ⟨cell_kept hok.l hg hr, cell_kept hok.k hg hr, cell_kept hok.s hg hr, fun j hj => ?_⟩
    obtain ⟨g, h1, h2, h3⟩ := hok.c j hj
    exact ⟨g, h1, cell_kept h2 hg hr, cell_kept h3 hg hr⟩
  case assign =>
    rintro l pre x W K ⟨⟨hD1, bA1, bL1, bC1⟩, hM1⟩ hK
    dsimp only [encC]
    gi_wp2
    have hM1' := hM1.size
    have hb := W.heap.size
    exact hK _ _ ((KeepsOthers.alloc _ _).from _) (fun _ => back_ok (hD1.next ((Below.refl _ W).alloc (Nat.le_refl _) _)) (by rw [undoD_len]; exact hi) (by rw [undoD_ln D i hi]; exact hcv) (bL1.alloc _) (bC1.alloc _)) ⟨⟨hD1.next ((Below.refl _ W).alloc (Nat.le_refl _) _), bA1.alloc _, bL1.alloc _, bC1.alloc _⟩, hM1.alloc _⟩ ⟨W.heap.size, bC1.lt, Blk.new W _ _, rfl⟩
  case body =>
    rintro l pre x a' W hl ⟨r, hr⟩ ⟨⟨hD1, bA1, bL1, bC1⟩, hM1⟩ ⟨Bx, hBx, bX, rfl⟩ hlt
    have cA := bA1.cell
    have cX0 := bX.cell 0
    have cX1 := bX.cell 1
    obtain ⟨q, hq, hq8⟩ := x.2
    have hset := set_calls i q x.1.2 W hD1 (by rw [undoD_len]; exact hi) hq8
    rw [← hq, undoD_snoc' D i hi] at hset
    clear hq
    have h1' : 1 ≤ n - 1 - 1 := by omega
    gi_wp2_with (refine ⟨trivial, ?_⟩; gi_at_call 48; refine (CallsIn.inRound l (callsIn_wide.2 hset)).mono ?_; rintro e w' ⟨v, rfl, rfl, hD2, hM2⟩)
    have hbox : ∀ {B : Nat} {t : TypeId} {v : Value}, B ≠ lb → Boxed W B t v → Boxed w' B t v := fun hne hb => (hM2.block _ hb.lt hne).trans hb
    have hbA := hbox (by omega) bA1
    have hbL := hbox (by omega) bL1
    have hbC := hbox (by omega) bC1
    refine ⟨⟨hM2.size, fun k o hB hk ho => ?_⟩, fun _ => back_ok hD2 (by rw [undoD_len]; exact hi) (by rw [undoD_ln D i hi]; exact hcv) hbL hbC, ⟨hD2, hbA, hbL, hbC⟩, hM1.trans hM2 (fun k hk _ => hk)⟩
    by_cases e : k = lb
    · subst e
      obtain ⟨C, hC⟩ := hD1.lines
      rw [show W.heap[k]? = _ from hC.blk] at hk; cases hk; cases ho
    · exact (hM2.block k (Array.getElem?_eq_some_iff.1 hk).1 e).trans hk
  case done =>
    rintro D2 ys W hD2 rfl ⟨⟨hD1, bA1, bL1, bC1⟩, hM1⟩ hK
    have cA := bA1.cell
    obtain ⟨C, hL⟩ := hD1.lines
    have hiu : i < (undoD D i ((((cs.drop k).reverse)).map (·.1))).ls.length := by rw [undoD_len]; exact hi
    have c64 := hL.blk.cell (i * 66 + 64)
    rw [hL.chg i hiu] at c64
    have f64 := hL.blk.thaw (i * 66 + 64)
    have c65 := hL.blk.cell (i * 66 + 65)
    rw [hL.mark i hiu] at c65
    have f65 := hL.blk.thaw (i * 66 + 65)
    gi_wp2
    gi_region
    have hK1 := (KeepsOthers.setCell W ⟨lb, i * 66 + 64, none⟩ (.slice none 0 0)).same D2 _ hK rfl
    have hK2 := (KeepsOthers.setCell (W.setCell ⟨lb, i * 66 + 64, none⟩ (.slice none 0 0)) ⟨lb, i * 66 + 65, none⟩ (.int .i64 0)).same D2 _ hK1 rfl
    have hK3 : (((W.setCell ⟨lb, i * 66 + 64, none⟩ (.slice none 0 0)).setCell ⟨lb, i * 66 + 65, none⟩ (.int .i64 0)).drew).heap[D2]? = some (.deferred (some [])) := hK2
    refine ⟨by simp, .inl ⟨_, _, rfl, run_takeDeferred hK3, ?_⟩⟩
    have hCs : i * 66 + 66 ≤ C.size := by rw [hL.size, undoD_len]; omega
    have hg : ∀ j, ((C.setIfInBounds (i * 66 + 64) (.slice none 0 0)).setIfInBounds (i * 66 + 65) (.int .i64 0))[j]? = if j = i * 66 + 65 then some (.int .i64 0) else if j = i * 66 + 64 then some (.slice none 0 0) else C[j]? := fun j => by
      rw [Array.getElem?_setIfInBounds, Array.getElem?_setIfInBounds]
      by_cases e : j = i * 66 + 65
      · subst e; rw [if_pos rfl, if_pos rfl, if_pos (by simp; omega)]
      · rw [if_neg (fun e2 => e e2.symm), if_neg e]
        by_cases e2 : j = i * 66 + 64
        · subst e2; rw [if_pos rfl, if_pos rfl, if_pos (by omega)]
        · rw [if_neg (fun e3 => e2 e3.symm), if_neg e2]
    have hmL : Mod (fun k => k = lb) W (((W.setCell ⟨lb, i * 66 + 64, none⟩ (.slice none 0 0)).setCell ⟨lb, i * 66 + 65, none⟩ (.int .i64 0)).drew) := (((Mod.refl (fun k => k = lb) W).setCell (a := ⟨lb, i * 66 + 64, none⟩) (.inl rfl) _).setCell (a := ⟨lb, i * 66 + 65, none⟩) (.inl rfl) _).drew
    have hcr : (D.ln i).crash k = { now := undoF (((cs.drop k).reverse).map (·.1)) (D.ln i).now, chg := [], mark := 0 } := by
      unfold NM.Ln.crash
      rw [hcv, ← List.map_drop, List.map_reverse, undoF_all]
    have hfin := hD1.setLine (l' := (D.ln i).crash k) (s' := (none, 0)) hL hiu ((NM.Dv.Ok0.ln h.ok i).crash k) ((hL.blk.set _ (.slice none 0 0)).set (i * 66 + 65) (.int .i64 0)).drew (by simp) (fun j hj => by rw [hg, if_neg (by omega), if_neg (by omega)])
      (fun j hj => by rw [hg, if_neg (by omega), if_neg (by omega), hcr, hL.now i hiu j hj, undoD_ln D i hi]) (by rw [hg, if_neg (by omega), if_pos rfl, hcr]; rfl) (by rw [hg, if_pos rfl, hcr]; rfl) hmL (fun k hk => .inl hk) (by rw [hcr]; exact World.ownsRow_nil _ _ _ _) (fun k hk => by rw [hcr] at hk; cases hk)
    have hun : ∀ l', (undoD D i (((cs.drop k).reverse).map (·.1))).setLn i l' = D.setLn i l' := fun l' => setLn_setLn _ _ _ _
    rw [hun] at hfin
    refine ⟨_, results_none rfl _ _ _, rfl, devAt_own p lb (fun (_ : Unit) => _) _ () _ _ (some D2) hfin (grownBy_putObj' _ D2 _) (fun r e => by cases e; exact ⟨_, hK3, rfl⟩), ?_⟩
    exact (hM1.trans hmL (fun k hk _ => hk)).grown (grownBy_putObj' _ D2 _) (fun r e => by cases e; exact .inr (by omega))
  case stop =>
    rintro D c pre W _ _ h _
    exact h.elim

/-- A line's crash, as a call. -/
theorem lcrash_calls {p lb : Nat} {D : NM.Dv} {S : Nat → Spot} (i k : Nat) (w0 : World) (h : DevAt w0 p lb D S) (hi : i < D.ls.length) (hk : k ≤ (D.ln i).chg.length) (hcs : (D.ln i).chg.length ≤ 1099511627776) :
    Ret Try.prog 47 #[.pointer (some ⟨lb, i * 66, none⟩), .int .i64 (k : Int)] w0 fun v w' => v = .tuple #[] ∧ DevAt w' p lb (D.setLn i ((D.ln i).crash k)) (setS S i (none, 0)) ∧ Mod (fun k => k = lb) w0 w' :=
  (callsIn_wide.1 (crash_in 6 (Nat.le_refl _) i k w0 h hi hk hcs)).mono fun _ _ h => ⟨_, h.1, rfl, h.2⟩
end Go.Proofs.Ytkljlgahdlgmpaa

/-! ### NvmWalk9 -/
namespace Go.Proofs.Ytkljlgahdlgmpaa
set_option linter.unusedVariables false
set_option linter.unusedSimpArgs false
open Go Go.RowKit

theorem SlIn.tail {n : Nat} {k : IntKind} {w : World} {a : Option Addr} {x : BitVec n} {l : List (BitVec n)} {cap : Nat} (h : SlIn k w a (x :: l) cap) : SlIn k w (if cap = 1 then a else Option.map (fun y => y.add 1) a) l (cap - 1) := by
  have hle := h.le
  have hm := h.max
  simp only [List.length_cons] at hle
  have hn := h.nil
  refine ⟨?_, by omega, by omega, fun h0 => ?_⟩
  · rcases h.at_ with h1 | ⟨b, off, rfl, hc⟩
    · cases h1
    · by_cases h1 : cap = 1
      · left; exact List.eq_nil_of_length_eq_zero (by omega)
      · rw [if_neg h1]
        refine .inr ⟨b, off + 1, ?_, fun i hi => ?_⟩
        · show some ((⟨b, off, none⟩ : Addr).add 1) = _; rw [Addr.add_lit]
        · have := hc (i + 1) (by simpa using hi)
          rw [show off + 1 + i = off + (i + 1) by omega, this]; simp
  · split at h0
    · omega
    · cases a with
      | none => have := hn rfl; omega
      | some y => cases h0
theorem sep_tail {a : Option Addr} {cap : Nat} {F : Nat → Prop} (h : ∀ y, a = some y → F y.block) : ∀ y, (if cap = 1 then a else Option.map (fun y => y.add 1) a) = some y → F y.block := by
  intro y hy
  split at hy
  · exact h y hy
  · cases a with
    | none => cases hy
    | some z =>
      have e : y = z.add 1 := (Option.some.inj hy).symm
      have : y.block = z.block := by rw [e]; unfold Addr.add; rfl
      rw [this]; exact h z rfl
theorem SlIn.mod {n : Nat} {k : IntKind} {w w' : World} {a : Option Addr} {l : List (BitVec n)} {cap : Nat} {F : Nat → Prop} (h : SlIn k w a l cap) (hm : Mod F w w') (hF : ∀ b, (∃ o, a = some ⟨b, o, none⟩) → ¬ F b) : SlIn k w' a l cap := ⟨h.at_.mod hm hF, h.le, h.max, h.nil⟩

theorem SlIn.mod' {n : Nat} {k : IntKind} {w w' : World} {a : Option Addr} {l : List (BitVec n)} {cap : Nat} {F : Nat → Prop} (h : SlIn k w a l cap) (hm : Mod F w w') (hF : l ≠ [] → ∀ b, (∃ o, a = some ⟨b, o, none⟩) → ¬ F b) : SlIn k w' a l cap := by
  by_cases h0 : l = []
  · exact ⟨.inl h0, h.le, h.max, h.nil⟩
  · exact h.mod hm (hF h0)
open NM in
theorem crashL_cons0 (l : Ln) (ls : List Ln) (ps : List (BitVec 8)) (h : ¬ 0 < l.chg.length) : crashL (l :: ls) ps = l.crash 0 :: crashL ls ps := by
  rw [crashL.eq_def]; exact if_neg h
open NM in
theorem crashL_consN (l : Ln) (ls : List Ln) : crashL (l :: ls) [] = l.crash 0 :: crashL ls [] := by
  rw [crashL.eq_def]; exact ite_self _
open NM in
theorem crashL_consP (l : Ln) (ls : List Ln) (p : BitVec 8) (ps : List (BitVec 8)) (h : 0 < l.chg.length) : crashL (l :: ls) (p :: ps) = l.crash (p.toNat % (l.chg.length + 1)) :: crashL ls ps := by
  rw [crashL.eq_def]; exact if_pos h

/-- Where k lines have crashed. -/
def crK (D : NM.Dv) (done : List NM.Ln) : NM.Dv := { D with ls := done ++ D.ls.drop done.length, down := false, left := -1 }
theorem crK_len (D : NM.Dv) (done : List NM.Ln) (_ : done.length ≤ D.ls.length) : (crK D done).ls.length = D.ls.length := by simp [crK]; omega
theorem crK_ln (D : NM.Dv) (done : List NM.Ln) (_ : done.length < D.ls.length) : (crK D done).ln done.length = D.ln done.length := by
  unfold NM.Dv.ln crK
  simp only [List.getD_eq_getElem?_getD]
  rw [List.getElem?_append_right (Nat.le_refl _)]
  simp
theorem crK_succ (D : NM.Dv) (done : List NM.Ln) (hk : done.length < D.ls.length) (l : NM.Ln) : (crK D done).setLn done.length l = crK D (done ++ [l]) := by
  unfold NM.Dv.setLn crK
  simp only [NM.Dv.mk.injEq, and_true]
  have e : (D.ls.drop done.length).set 0 l = l :: D.ls.drop (done.length + 1) := by rw [List.drop_eq_getElem_cons hk]; rfl
  rw [List.set_append_right _ _ (Nat.le_refl _), Nat.sub_self, e, List.append_assoc]
  simp

set_option maxHeartbeats 2000000 in
set_option linter.unusedSimpArgs false in
theorem crash_calls {p lb : Nat} {D : NM.Dv} {S : Nat → Spot} (a0 : Option Addr) (c0 : Nat) (ps : List (BitVec 8)) (w0 : World) (h : DevAt w0 p lb D S) (hin : SlIn .u8 w0 a0 ps c0) (hsep : ps ≠ [] → ∀ y, a0 = some y → y.block ≠ p ∧ y.block ≠ lb) (hc : D.steps < 1099511627776) (hok : D.Ok) :
    Ret Try.prog 20 #[.pointer (some ⟨p, 0, none⟩), .slice a0 ps.length c0] w0 fun v w' => v = .tuple #[] ∧ DevStep w0 p lb D S (D.crash ps) w' := by
  have hpos := h.pos
  have hmost := h.ok.most
  have hs0 : ((D.size : Int) == 0) = false := by rw [beq_eq_false_iff_ne]; unfold NM.Dv.size; omega
  have hs0' : ¬ D.size = 0 := by unfold NM.Dv.size; omega
  have hl0 : ¬ D.ls.length = 0 := by omega
  have hB := h.dev
  refine ret_of (args := [_, _]) _ Try.func20 rfl Try.ntmps20 (by simp) ?_
  simp -implicitDefEqProofs [go_sem]
  refine callE_of (size_calls w0 h) ?_
  rintro v w1 ⟨rfl, rfl⟩
  have hB1 := hB.set 1 (.bool false)
  have hB2 := hB1.set 2 (.int .i64 (-1))
  have hm1 := (Mod.refl (fun k => k = p) w1).setCell (a := ⟨p, 1, none⟩) (.inl rfl) (.bool false)
  have hm2 := hm1.setCell (a := ⟨p, 2, none⟩) (.inl rfl) (.int .i64 (-1))
  have hA0 := h.head (D' := crK D []) (hB2.eq' (by simp [crK])) hm2 (by simp [crK]) ⟨by simpa [crK] using h.ok.line, by simpa [crK] using h.ok.most, by simp [crK]⟩
  have hin2 := hin.mod' hm2 (fun h0 b hb e => by obtain ⟨o, hb⟩ := hb; exact (hsep h0 _ hb).1 e)
  simp -implicitDefEqProofs [go_sem, hs0, hs0', hB.cell, hB.thaw, hB1.cell, hB1.thaw]
  generalize hw2 : World.setCell (World.setCell w1 _ _) _ _ = w2 at *
  have hdv2 := hA0.dev
  refine wpE_loop (fun e' w' => ∃ (done : List NM.Ln) (rem : List (BitVec 8)) (a : Option Addr) (c : Nat), done.length ≤ D.ls.length ∧ NM.crashL D.ls ps = done ++ NM.crashL (D.ls.drop done.length) rem ∧ e' 0 = .pointer (some ⟨p, 0, none⟩) ∧ e' 1 = .slice a rem.length c ∧ e' 21 = .int .i64 D.ls.length ∧ e' 22 = .int .i64 done.length ∧
    SlIn .u8 w' a rem c ∧ (rem ≠ [] → ∀ y, a = some y → y.block ≠ p ∧ y.block ≠ lb) ∧ DevStep w1 p lb D S (crK D done) w') (fun e' _ => D.ls.length - (intOf (e' 22)).toNat) ?_ ?_
  · refine ⟨[], ps, a0, c0, by simp, by simp, ?_⟩
    simp -implicitDefEqProofs [go_sem]
    exact ⟨hin2, hsep, S, hA0, hm2.mono (fun k hk _ => .inl hk), fun k hk => .inl (by
      rcases hk with hk | hk | ⟨i, hi, hk⟩
      · exact .inl hk
      · exact .inr (.inl hk)
      · have e : crK D [] = { D with down := false, left := -1 } := by simp [crK]
        rw [e] at hi hk
        exact .inr (.inr ⟨i, hi, hk⟩))⟩
  · rintro e' w' ⟨done, rem, a, c, hk, hcr, g0, g1, g21, g22, hin', hsep', S', hA, hm, hw⟩
    have hlk := crK_len D done hk
    by_cases hlt : done.length < D.ls.length
    · have hlt' : (done.length : Int) < D.ls.length := by omega
      have hwk := IntWalk.i64_in ((done.length : Int) + 1) (by omega)
      have hdev := hA.dev
      rw [hlk] at hdev
      have hlt2 : done.length < (crK D done).ls.length := by omega
      obtain ⟨C, hL⟩ := hA.lines
      have g64 := hL.blk.cell (done.length * 66 + 64)
      rw [hL.chg _ hlt2, spotV, crK_ln D done hlt] at g64
      have hcl := NM.Dv.Ok.lnChg hok done.length
      have hwm := IntWalk.i64_in (((D.ln done.length).chg.length : Int) + 1) (by omega)
      have hdrop : D.ls.drop done.length = D.ln done.length :: D.ls.drop (done.length + 1) := by
        rw [List.drop_eq_getElem_cons hlt]; congr 1; simp [NM.Dv.ln, List.getD, hlt]
      rw [hdrop] at hcr
      have fin : ∀ (e2 : Env) (w2 : World) (l' : NM.Ln) (rem2 : List (BitVec 8)) (a2 : Option Addr) (c2 : Nat), NM.crashL D.ls ps = done ++ l' :: NM.crashL (D.ls.drop (done.length + 1)) rem2 → e2 0 = .pointer (some ⟨p, 0, none⟩) → e2 1 = .slice a2 rem2.length c2 → e2 21 = .int .i64 D.ls.length → e2 22 = .int .i64 ((done.length : Int) + 1) →
          SlIn .u8 w2 a2 rem2 c2 → (rem2 ≠ [] → ∀ y, a2 = some y → y.block ≠ p ∧ y.block ≠ lb) → ∀ s', DevAt w2 p lb (crK D (done ++ [l'])) (setS S' done.length s') → Mod (fun k => k = lb) w' w2 → (∀ k, Value.ownBlock (spotV l' s') = some k → Value.ownBlock (spotV ((crK D done).ln done.length) (S' done.length)) = some k ∨ w'.heap.size ≤ k) →
          (∃ (done : List NM.Ln) (rem : List (BitVec 8)) (a : Option Addr) (c : Nat), done.length ≤ D.ls.length ∧ NM.crashL D.ls ps = done ++ NM.crashL (D.ls.drop done.length) rem ∧ e2 0 = .pointer (some ⟨p, 0, none⟩) ∧ e2 1 = .slice a rem.length c ∧ e2 21 = .int .i64 D.ls.length ∧ e2 22 = .int .i64 done.length ∧
            SlIn .u8 w2 a rem c ∧ (rem ≠ [] → ∀ y, a = some y → y.block ≠ p ∧ y.block ≠ lb) ∧ DevStep w1 p lb D S (crK D done) w2) := by
        intro e2 w2 l' rem2 a2 c2 h1 h2 h3 h4 h5 h6 h7 s' hA2 hm2 hwh
        refine ⟨done ++ [l'], rem2, a2, c2, by simp; omega, by simp [h1], h2, h3, h4, by rw [h5]; simp, h6, h7, DevStep.head hA hm hw ⟨_, hA2, hm2.mono (fun k hk _ => .inr (.inl hk)), ?_⟩⟩
        have := setLine_F (p := p) (lb := lb) (D := crK D done) (S := S') (i := done.length) (l' := l') (s' := s') (w := w') hlt2 hwh
        rw [crK_succ D done hlt] at this
        exact this
      have hcall : ∀ (k : Nat), k ≤ (D.ln done.length).chg.length → Ret Try.prog 47 #[.pointer (some ⟨lb, done.length * 66, none⟩), .int .i64 (k : Int)] w' fun v w2 => v = .tuple #[] ∧ DevAt w2 p lb (crK D (done ++ [(D.ln done.length).crash k])) (setS S' done.length (none, 0)) ∧ Mod (fun k => k = lb) w' w2 := by
        intro k hk
        have := lcrash_calls done.length k w' hA hlt2 (by rw [crK_ln D done hlt]; exact hk) (by rw [crK_ln D done hlt]; omega)
        rw [crK_ln D done hlt, crK_succ D done hlt] at this
        exact this
      have hnw : ∀ (k g : Nat), Value.ownBlock (spotV ((D.ln done.length).crash k) (none, 0)) = some g → Value.ownBlock (spotV ((crK D done).ln done.length) (S' done.length)) = some g ∨ w'.heap.size ≤ g := fun k g hg => by cases hg
      have zero : ∀ (hcr0 : NM.crashL (D.ln done.length :: D.ls.drop (done.length + 1)) rem = (D.ln done.length).crash 0 :: NM.crashL (D.ls.drop (done.length + 1)) rem), NM.crashL D.ls ps = done ++ (D.ln done.length).crash 0 :: NM.crashL (D.ls.drop (done.length + 1)) rem := fun h => by rw [hcr, h]
      generalize hck : (D.ln done.length).chg.length = m at *
      cases m with
      | zero =>
        have hz := zero (crashL_cons0 _ _ _ (by omega))
        have hca := hcall 0 (Nat.le_refl _)
        have hw1 : IntKind.i64.wrap 1 = 1 := by decide
        clear hwm
        simp -implicitDefEqProofs [go_sem, hw1, g0, g1, g21, g22, hlt, hlt', hdev.cell, g64]
        refine callE_of hca ?_
        rintro v w2 ⟨rfl, hA2, hm2⟩
        simp -implicitDefEqProofs [go_sem, g0, g1, g21, g22, hwk]
        refine goE_round (fin _ _ _ _ _ _ hz ?_ ?_ ?_ ?_ (hin'.mod' hm2 (fun h0 b hb e => by obtain ⟨o, hb⟩ := hb; exact (hsep' h0 _ hb).2 e)) hsep' _ hA2 hm2 (hnw 0)) ?_
        · simp -implicitDefEqProofs [go_sem, g0]
        · simp -implicitDefEqProofs [go_sem, g1]
        · simp -implicitDefEqProofs [go_sem, g21]
        · simp -implicitDefEqProofs [go_sem]
        · simp -implicitDefEqProofs [go_sem, intOf, g22, hwk]; omega
      | succ m =>
        have hm0 : (0 : Int) < (m : Int) + 1 := by omega
        have hw2 := IntWalk.i64_in ((m : Int) + 1 + 1) (by omega)
        clear hwm
        have hm2' : (1 : Int) < (m : Int) + 1 + 1 := by omega
        have hm1 : (1 : Int) < ((m + 1 : Nat) : Int) + 1 := by omega
        cases rem with
        | nil =>
          have hz := zero (crashL_consN _ _)
          have hca := hcall 0 (Nat.zero_le _)
          simp -implicitDefEqProofs [go_sem, g0, g1, g21, g22, hlt, hlt', hdev.cell, g64, hw2, hm2', hm1, hm0]
          refine callE_of hca ?_
          rintro v w2 ⟨rfl, hA2, hm2⟩
          simp -implicitDefEqProofs [go_sem, g0, g1, g21, g22, hwk]
          refine goE_round (fin _ _ _ _ _ _ hz ?_ ?_ ?_ ?_ (hin'.mod' hm2 (fun h0 b hb e => by obtain ⟨o, hb⟩ := hb; exact (hsep' h0 _ hb).2 e)) hsep' _ hA2 hm2 (hnw 0)) ?_
          · simp -implicitDefEqProofs [go_sem, g0]
          · simp -implicitDefEqProofs [go_sem, g1]
          · simp -implicitDefEqProofs [go_sem, g21]
          · simp -implicitDefEqProofs [go_sem]
          · simp -implicitDefEqProofs [go_sem, intOf, g22, hwk]; omega
        | cons x rem =>
          have hz : NM.crashL D.ls ps = done ++ (D.ln done.length).crash (x.toNat % (m + 1 + 1)) :: NM.crashL (D.ls.drop (done.length + 1)) rem := by
            rw [hcr, crashL_consP _ _ _ _ (by omega), hck]
          have hca := hcall (x.toNat % (m + 1 + 1)) (by have := Nat.mod_lt x.toNat (show 0 < m + 1 + 1 by omega); omega)
          obtain ⟨b, o, rfl, hc0⟩ := hin'.at_.cell (i := 0) (by simp)
          have hc0 : w'.cell? ⟨b, o, none⟩ = some (.int .u8 (uv x)) := hc0
          have hx := uv_lt x
          have hx0 := uv_nonneg x
          have hwx := IntWalk.i64_in (uv x) (by omega)
          have hmd : (uv x).tmod ((m : Int) + 1 + 1) = ((x.toNat % (m + 1 + 1) : Nat) : Int) := by
            rw [Int.tmod_eq_emod_of_nonneg hx0, uv_def, Int.natCast_emod]; push_cast; rfl
          have hrl : (0 : Int) < ((rem.length + 1 : Nat) : Int) := by omega
          have hle := hin'.le
          generalize hpk : x.toNat % (m + 1 + 1) = pk at *
          have hnz : ¬ (m : Int) + 1 + 1 = 0 := by omega
          have hrl' : (0 : Int) < (rem.length : Int) + 1 := by omega
          have hle1 : (1 : Int) ≤ (rem.length : Int) + 1 := by omega
          have htl := hin'.tail
          have hst := sep_tail (cap := c) (F := fun b => b ≠ p ∧ b ≠ lb) (hsep' (by simp))
          simp -implicitDefEqProofs [go_sem, g0, g1, g21, g22, hlt, hlt', hdev.cell, g64, hw2, hm2', hm1, hm0, hrl, hrl', hle1, hc0, hwx, hmd, hnz]
          refine callE_of hca ?_
          rintro v w2 ⟨rfl, hA2, hm2⟩
          simp -implicitDefEqProofs [go_sem, g0, g1, g21, g22, hwk]
          refine goE_round (fin _ _ _ _ _ _ hz ?_ ?_ ?_ ?_ (htl.mod' hm2 (fun _ b hb e => by obtain ⟨o, hb⟩ := hb; exact (hst _ hb).2 e)) (fun _ => hst) _ hA2 hm2 (hnw pk)) ?_
          · simp -implicitDefEqProofs [go_sem, g0]
          · simp -implicitDefEqProofs [go_sem, g1]
          · simp -implicitDefEqProofs [go_sem, g21]
          · simp -implicitDefEqProofs [go_sem]
          · simp -implicitDefEqProofs [go_sem, intOf, g22, hwk]; omega
    · have hk' : done.length = D.ls.length := by omega
      have hdr : D.ls.drop done.length = [] := List.drop_eq_nil_of_le (by omega)
      have hnil : ∀ r, NM.crashL [] r = [] := fun r => rfl
      rw [hdr, hnil, List.append_nil] at hcr
      have hfin : crK D done = D.crash ps := by unfold NM.Dv.crash crK; rw [if_neg hl0, hdr, List.append_nil, hcr]
      simp -implicitDefEqProofs [go_sem, g0, g21, g22, hk']
      refine body_end (body_none rfl ?_)
      rw [← hfin]
      exact ⟨rfl, S', hA, hm, hw⟩
end Go.Proofs.Ytkljlgahdlgmpaa

/-! ### NvmDev -/
namespace Go.Proofs.Ytkljlgahdlgmpaa
set_option linter.unusedVariables false
set_option linter.unusedSimpArgs false
open Go Go.RowKit

/-- Behind pointer p lies device D; its blocks are F. -/
def DevB (w : World) (p : Nat) (F : Nat → Prop) (D : NM.Dv) : Prop := ∃ lb S, DevAt w p lb D S ∧ F = DevF p lb D S ∧ D.Ok
/-- From w to w': of what was there, F alone was turned; F' is F, or new. -/
structure Turn (w : World) (F : Nat → Prop) (w' : World) (F' : Nat → Prop) : Prop where
  mod : Mod F w w'
  new : ∀ k, F' k → F k ∨ w.heap.size ≤ k
section
variable {w w1 w' : World} {F F1 F' G : Nat → Prop} {p q : Nat} {D E : NM.Dv} {B : Nat}
theorem Turn.refl (w : World) (F : Nat → Prop) : Turn w F w F := ⟨Mod.refl _ _, fun _ h => .inl h⟩
theorem Turn.trans (h : Turn w F w1 F1) (k : Turn w1 F1 w' F') : Turn w F w' F' :=
  ⟨h.mod.trans k.mod (fun i hi hlt => by rcases h.new i hi with h2 | h2; exact h2; omega), fun i hi => by
    rcases k.new i hi with h2 | h2
    · exact h.new i h2
    · right; have := h.mod.size; omega⟩
theorem Turn.of (h : Below w.heap.size w w') : Turn w F w' F := ⟨Mod.of h, fun _ h => .inl h⟩
theorem Turn.size (h : Turn w F w' F') : w.heap.size ≤ w'.heap.size := h.mod.size
theorem Turn.below (h : Turn w F w' F') (hB : B ≤ w.heap.size) (hF : ∀ k, F k → B ≤ k) : Below B w w' := h.mod.below hB hF
theorem Turn.ge (h : Turn w F w' F') (hB : B ≤ w.heap.size) (hF : ∀ k, F k → B ≤ k) : ∀ k, F' k → B ≤ k := fun k hk => by
  rcases h.new k hk with h2 | h2
  · exact hF k h2
  · omega
theorem DevB.lt (h : DevB w p F D) : ∀ k, F k → k < w.heap.size := by
  obtain ⟨lb, S, hA, rfl, _⟩ := h
  exact hA.lt
theorem DevB.ok (h : DevB w p F D) : D.Ok := by obtain ⟨_, _, _, _, h⟩ := h; exact h
theorem DevB.pos (h : DevB w p F D) : 0 < D.ls.length := by obtain ⟨_, _, h, _⟩ := h; exact h.pos
/-- Another device is left as it was. -/
theorem DevB.other (h : DevB w q G E) (ht : Turn w F w' F') (hd : ∀ k, F k → ¬ G k) : DevB w' q G E ∧ (∀ k, F' k → ¬ G k) := by
  have hlt := h.lt
  obtain ⟨lb, S, hA, rfl, hok⟩ := h
  refine ⟨⟨lb, S, hA.mod ht.mod (fun k hg hf => hd k hf hg), rfl, hok⟩, fun k hk hg => ?_⟩
  rcases ht.new k hk with h2 | h2
  · exact hd k h2 hg
  · have := hlt k hg; omega
theorem DevB.next (h : DevB w p F D) (hb : Below w.heap.size w w') : DevB w' p F D := by
  obtain ⟨lb, S, hA, rfl, hok⟩ := h
  exact ⟨lb, S, hA.next hb, rfl, hok⟩
theorem DevB.drew (h : DevB w p F D) : DevB w.drew p F D := h.next ((Below.refl _ _).drew)
theorem devB_step {lb : Nat} {S : Nat → Spot} {D' : NM.Dv} (h : DevStep w p lb D S D' w') (hok : D'.Ok) : ∃ F', DevB w' p F' D' ∧ Turn w (DevF p lb D S) w' F' := by
  obtain ⟨S', hA, hm, hw⟩ := h
  exact ⟨_, ⟨lb, S', hA, rfl, hok⟩, hm, hw⟩
end

/-! ### The calls -/
section
variable {p : Nat} {F : Nat → Prop} {D : NM.Dv}
theorem sizeB (w : World) (h : DevB w p F D) : Ret Try.prog 26 #[.pointer (some ⟨p, 0, none⟩)] w fun v w' => v = .int .i64 (D.size : Int) ∧ w' = w := by
  obtain ⟨lb, S, hA, rfl, _⟩ := h; exact size_calls w hA
theorem stepsB (w : World) (h : DevB w p F D) : Ret Try.prog 25 #[.pointer (some ⟨p, 0, none⟩)] w fun v w' => v = .int .i64 (D.steps : Int) ∧ w' = w := by
  obtain ⟨lb, S, hA, rfl, _⟩ := h; exact steps_calls w hA
theorem mayB (i : Int) (w : World) (h : DevB w p F D) (hc : D.steps < 1099511627776) : Ret Try.prog 21 #[.pointer (some ⟨p, 0, none⟩), .int .i64 i] w fun v w' => v = .int .i64 (D.may i) ∧ w' = w := by
  obtain ⟨lb, S, hA, rfl, hok⟩ := h; exact may_calls i w hA hc hok
theorem loadB (off : Int) (w : World) (h : DevB w p F D) (ho : I64 off) : Ret Try.prog 23 #[.pointer (some ⟨p, 0, none⟩), .int .i64 off] w fun v w' => v = .tuple #[.int .u64 (uv (D.load off).1), .int .i64 (D.load off).2] ∧ w' = w := by
  obtain ⟨lb, S, hA, rfl, _⟩ := h; exact load_calls off w hA ho
theorem storeB (off : Int) (n : BitVec 64) (w : World) (h : DevB w p F D) (ho : I64 off) (hc : D.steps < 1099511627776) : Ret Try.prog 22 #[.pointer (some ⟨p, 0, none⟩), .int .i64 off, .int .u64 (uv n)] w fun v w' => v = .int .i64 (D.store off n).2 ∧ ∃ F', DevB w' p F' (D.store off n).1 ∧ Turn w F w' F' := by
  obtain ⟨lb, S, hA, rfl, hok⟩ := h
  exact (store_calls off n w hA ho hc hok).mono fun v w' h => ⟨h.1, devB_step h.2 (hok.store off n)⟩
theorem flushB (off : Int) (w : World) (h : DevB w p F D) (ho : I64 off) (hc : D.steps < 1099511627776) : Ret Try.prog 17 #[.pointer (some ⟨p, 0, none⟩), .int .i64 off] w fun v w' => v = .int .i64 (D.flush off).2 ∧ ∃ F', DevB w' p F' (D.flush off).1 ∧ Turn w F w' F' := by
  obtain ⟨lb, S, hA, rfl, hok⟩ := h
  exact (flush_calls off w hA ho hc hok).mono fun v w' h => ⟨h.1, devB_step h.2 (hok.flush off)⟩
theorem fenceB (w : World) (h : DevB w p F D) (hc : D.steps < 1099511627776) : Ret Try.prog 18 #[.pointer (some ⟨p, 0, none⟩)] w fun v w' => v = .int .i64 D.fence.2 ∧ ∃ F', DevB w' p F' D.fence.1 ∧ Turn w F w' F' := by
  obtain ⟨lb, S, hA, rfl, hok⟩ := h
  exact (fence_calls w hA hc hok).mono fun v w' h => ⟨h.1, devB_step h.2 hok.fence⟩
theorem stopB (after : Int) (w : World) (h : DevB w p F D) (ha : after ≤ 9223372036854775807) : Ret Try.prog 24 #[.pointer (some ⟨p, 0, none⟩), .int .i64 after] w fun v w' => v = .tuple #[] ∧ ∃ F', DevB w' p F' (D.stop after) ∧ Turn w F w' F' := by
  obtain ⟨lb, S, hA, rfl, hok⟩ := h
  refine (stop_calls after w hA ha).mono fun v w' h => ⟨h.1, _, ⟨lb, S, h.2.1, rfl, hok.stop after ha⟩, h.2.2.1.mono (fun k hk _ => .inl hk), fun k hk => .inl ?_⟩
  have e : (D.stop after).ls = D.ls := by unfold NM.Dv.stop; split <;> rfl
  rcases hk with hk | hk | ⟨i, hi, hk⟩
  · exact .inl hk
  · exact .inr (.inl hk)
  · rw [e] at hi
    have e2 : (D.stop after).ln i = D.ln i := by unfold NM.Dv.ln; rw [e]
    rw [e2] at hk
    exact .inr (.inr ⟨i, hi, hk⟩)
theorem crashB (a : Option Addr) (c : Nat) (ps : List (BitVec 8)) (w : World) (h : DevB w p F D) (hin : SlIn .u8 w a ps c) (hsep : ps ≠ [] → ∀ y, a = some y → ¬ F y.block) (hc : D.steps < 1099511627776) : Ret Try.prog 20 #[.pointer (some ⟨p, 0, none⟩), .slice a ps.length c] w fun v w' => v = .tuple #[] ∧ ∃ F', DevB w' p F' (D.crash ps) ∧ Turn w F w' F' := by
  obtain ⟨lb, S, hA, rfl, hok⟩ := h
  exact (crash_calls a c ps w hA hin (fun h0 y hy => ⟨fun e => hsep h0 y hy (.inl e), fun e => hsep h0 y hy (.inr (.inl e))⟩) hc hok).mono fun v w' h => ⟨h.1, devB_step h.2 (hok.crash ps)⟩
theorem imageB (w : World) (h : DevB w p F D) : Ret Try.prog 19 #[.pointer (some ⟨p, 0, none⟩)] w fun v w' => ∃ a c, v = .slice a D.size c ∧ SlIn .u8 w' a D.image c ∧ Below w.heap.size w w' ∧ (∀ y, a = some y → w.heap.size ≤ y.block ∧ y.block < w'.heap.size) := by
  obtain ⟨lb, S, hA, rfl, _⟩ := h; exact image_calls w hA
theorem newB (n : Int) (w : World) (hn : I64 n) : Ret Try.prog 15 #[.int .i64 n] w fun v w' => Below w.heap.size w w' ∧
      ((¬ (1 ≤ n ∧ n ≤ 1024) ∧ v = .pointer none) ∨ ((1 ≤ n ∧ n ≤ 1024) ∧ ∃ p F, v = .pointer (some ⟨p, 0, none⟩) ∧ DevB w' p F (NM.dev0 n.toNat) ∧ ∀ k, F k → w.heap.size ≤ k)) := by
  refine (new_calls n w hn).mono ?_
  rintro v w' ⟨hb, h | ⟨h1, p, lb, hv, hA, hp, hlb⟩⟩
  · exact ⟨hb, .inl h⟩
  · refine ⟨hb, .inr ⟨h1, p, _, hv, ⟨lb, S0, hA, rfl, NM.dev0_ok _ (by omega)⟩, ?_⟩⟩
    rintro k (rfl | rfl | ⟨i, hi, hk⟩)
    · exact hp
    · exact hlb
    · have : i < n.toNat := by simpa [NM.dev0] using hi
      rw [dev0_ln _ i this] at hk; cases hk
end
end Go.Proofs.Ytkljlgahdlgmpaa

/-! ### PlainN -/
namespace Go.Proofs.Ytkljlgahdlgmpaa
set_option linter.unusedVariables false
set_option linter.unusedSimpArgs false
open Go

theorem flush_steps (D : NM.Dv) (off : Int) : (D.flush off).1.steps ≤ D.steps + 1 := by unfold NM.Dv.flush; split <;> simp [NM.Dv.done, NM.Dv.setLn]
theorem fence_steps (D : NM.Dv) : D.fence.1.steps ≤ D.steps + 1 := by unfold NM.Dv.fence; split <;> simp [NM.Dv.done]
theorem store_steps (D : NM.Dv) (off : Int) (n : BitVec 64) : (D.store off n).1.steps ≤ D.steps + 1 := by
  unfold NM.Dv.store; split
  · simp only; split <;> simp [NM.Dv.done, NM.Dv.setLn]
  · simp

namespace NM
open Go.Proofs.Ytkljlgahdlgmpaa.WM (getM putM putM_length putM_getD hasB get_put byteOf byteOf_wd wd)

/-- It is up, and never goes down. -/
structure Dv.Up (D : Dv) : Prop where
  down : D.down = false
  left : D.left = -1
theorem dev0_up (n : Nat) : (dev0 n).Up := ⟨rfl, rfl⟩
theorem Dv.Up.done {D : Dv} (h : D.Up) : D.done.Up := by
  have h1 := h.left
  have h2 := h.down
  constructor
  · simp only [Dv.done]; rw [if_neg (by omega)]; exact h2
  · simp only [Dv.done]; rw [if_neg (by omega)]; exact h1
theorem Dv.Up.store {D : Dv} (h : D.Up) (off : Int) (n : BitVec 64) : (D.store off n).1.Up := by
  unfold Dv.store; split
  · simp only; split
    · exact h.done
    · exact Dv.Up.done (D := D.setLn _ _) ⟨h.down, h.left⟩
  · exact h
theorem Dv.Up.flush {D : Dv} (h : D.Up) (off : Int) : (D.flush off).1.Up := by
  unfold Dv.flush; split
  · exact Dv.Up.done (D := D.setLn _ _) ⟨h.down, h.left⟩
  · exact h
theorem Dv.Up.fence {D : Dv} (h : D.Up) : D.fence.1.Up := by
  unfold Dv.fence; split
  · exact Dv.Up.done (D := { D with ls := D.ls.map Ln.fence }) ⟨h.down, h.left⟩
  · exact h
theorem Dv.Up.crash {D : Dv} (hp : 0 < D.ls.length) (ps : List (BitVec 8)) : (D.crash ps).Up := by
  unfold Dv.crash; rw [if_neg (by omega)]; exact ⟨rfl, rfl⟩
theorem done_ls (D : Dv) : D.done.ls = D.ls := rfl
theorem store_len (D : Dv) (off : Int) (n : BitVec 64) : (D.store off n).1.ls.length = D.ls.length := by
  unfold Dv.store; split
  · simp only; split <;> simp [Dv.done, Dv.setLn]
  · rfl
theorem flush_len (D : Dv) (off : Int) : (D.flush off).1.ls.length = D.ls.length := by unfold Dv.flush; split <;> simp [Dv.done, Dv.setLn]
theorem fence_len (D : Dv) : D.fence.1.ls.length = D.ls.length := by unfold Dv.fence; split <;> simp [Dv.done]
theorem crash_len (D : Dv) (ps : List (BitVec 8)) : (D.crash ps).ls.length = D.ls.length := by unfold Dv.crash; split <;> simp [crashL_length]
theorem stop_len (D : Dv) (z : Int) : (D.stop z).ls.length = D.ls.length := by unfold Dv.stop; split <;> rfl

theorem ask_up {D : Dv} (h : D.Up) (hp : 0 < D.ls.length) (off each : Int) : D.ask off each = if off < 0 ∨ (D.size : Int) ≤ off ∨ off.tmod each ≠ 0 then 4 else 0 := by
  unfold Dv.ask; rw [if_neg (by omega), h.down]; rfl

/-! ### Bytes -/
theorem flat_getD : ∀ (ls : List Ln), (∀ l ∈ ls, l.now.length = 64) → ∀ q r, q < ls.length → r < 64 → ((ls.map Ln.now).flatten).getD (64 * q + r) 0#8 = (ls.getD q line0).now.getD r 0#8
  | [], _, q, r, hq, _ => by simp at hq
  | x :: ls, h, 0, r, _, hr => by
    have hx := h x List.mem_cons_self
    simp only [List.map_cons, List.flatten_cons, List.getD_eq_getElem?_getD]
    rw [List.getElem?_append_left (by omega)]
    simp
  | x :: ls, h, q + 1, r, hq, hr => by
    have hx := h x List.mem_cons_self
    have ih := flat_getD ls (fun l hl => h l (List.mem_cons_of_mem _ hl)) q r (by simpa using hq) hr
    simp only [List.map_cons, List.flatten_cons, List.getD_eq_getElem?_getD] at ih ⊢
    rw [List.getElem?_append_right (by omega), show 64 * (q + 1) + r - x.now.length = 64 * q + r by omega, ih]
    simp
theorem flat_len : ∀ (ls : List Ln), (∀ l ∈ ls, l.now.length = 64) → ((ls.map Ln.now).flatten).length = 64 * ls.length
  | [], _ => rfl
  | x :: ls, h => by
    have hx := h x List.mem_cons_self
    have ih := flat_len ls (fun l hl => h l (List.mem_cons_of_mem _ hl))
    simp only [List.map_cons, List.flatten_cons, List.length_append, List.length_cons]
    omega
theorem image_getD {D : Dv} (h : D.Ok) {q r : Nat} (hq : q < D.ls.length) (hr : r < 64) : D.image.getD (64 * q + r) 0#8 = (D.ln q).now.getD r 0#8 := flat_getD D.ls (fun l hl => (h.line l hl).len) q r hq hr
theorem image_len {D : Dv} (h : D.Ok) : D.image.length = D.size := flat_len D.ls (fun l hl => (h.line l hl).len)
theorem image_at {D : Dv} (h : D.Ok) {k : Nat} (hk : k < D.size) : D.image.getD k 0#8 = (D.ln (k / 64)).now.getD (k % 64) 0#8 := by
  unfold Dv.size at hk
  have := image_getD h (q := k / 64) (r := k % 64) (by omega) (Nat.mod_lt _ (by omega))
  rwa [Nat.div_add_mod] at this
theorem list_ext_getD {a b : List (BitVec 8)} (hl : a.length = b.length) (h : ∀ i, i < a.length → a.getD i 0#8 = b.getD i 0#8) : a = b := by
  apply List.ext_getElem hl
  intro i h1 h2
  have := h i h1
  simpa [List.getD, h1, h2] using this
theorem put_same (l : List (BitVec 8)) (p : Nat) (hp : p + 8 ≤ l.length) : putM l p (getM l p) = l := by
  apply list_ext_getD (by rw [putM_length])
  intro i hi
  rw [putM_getD l p _ i hp]
  split
  · rename_i h
    unfold getM
    rw [byteOf_wd _ _ (by omega)]
    congr 1; omega
  · rfl
/-- The bytes behind a store that is done. -/
theorem store_now {D : Dv} (h : D.Ok) {o : Nat} (n : BitVec 64) (ha : D.ask (o : Int) 8 = 0) (ho : o % 8 = 0) (hs : o < D.size) (i : Nat) :
    ((D.store o n).1.ln i).now = if i = o / 64 then putM (D.ln i).now (o % 64) n else (D.ln i).now := by
  have hq : o / 64 < D.ls.length := by unfold Dv.size at hs; omega
  unfold Dv.store
  rw [if_pos ha, Int.toNat_natCast]
  have hlen := (Dv.Ok0.ln h.to0 (o / 64)).len
  by_cases hw : D.word o = n
  · simp only [hw, if_true]
    show ((D.done).ln i).now = _
    have : D.done.ln i = D.ln i := rfl
    rw [this]
    split
    · rename_i hi
      subst hi
      rw [← hw]
      unfold Dv.word
      rw [put_same _ _ (by omega)]
    · rfl
  · simp only [hw, if_false]
    show (((D.setLn (o / 64) _).done).ln i).now = _
    have : ∀ E : Dv, E.done.ln i = E.ln i := fun _ => rfl
    rw [this, Dv.setLn_ln D _ _ hq]
    split
    · rename_i hi; subst hi; rfl
    · rfl
theorem store_fail {D : Dv} (off : Int) (n : BitVec 64) (ha : ¬ D.ask off 8 = 0) : D.store off n = (D, D.ask off 8) := by unfold Dv.store; rw [if_neg ha]
theorem store_err {D : Dv} (off : Int) (n : BitVec 64) : (D.store off n).2 = D.ask off 8 := by
  unfold Dv.store; split
  · rename_i h; simp only; exact h.symm
  · rfl
/-- A byte that a store changes is one of its word's. -/
theorem store_image {D : Dv} (h : D.Ok) (hp : 0 < D.ls.length) (off : Int) (n : BitVec 64) {k : Nat} (hk : k < D.size) (hne : (D.store off n).1.image.getD k 0#8 ≠ D.image.getD k 0#8) :
    D.ask off 8 = 0 ∧ off ≤ k ∧ (k : Int) < off + 8 := by
  by_cases ha : D.ask off 8 = 0
  · obtain ⟨o, rfl, ho8, hos⟩ := ask8 hp ha
    refine ⟨ha, ?_⟩
    have hk' : k < (D.store o n).1.size := by unfold Dv.size; rw [store_len]; exact hk
    rw [image_at (h.store _ _) hk', image_at h hk, store_now h n ha ho8 hos] at hne
    by_cases hi : k / 64 = o / 64
    · rw [if_pos hi] at hne
      have hlen := (Dv.Ok0.ln h.to0 (k / 64)).len
      rw [putM_getD _ _ _ _ (by omega)] at hne
      split at hne
      · omega
      · exact absurd rfl hne
    · rw [if_neg hi] at hne; exact absurd rfl hne
  · rw [store_fail off n ha] at hne; exact absurd rfl hne
theorem done_ask {D : Dv} (h : D.Up) (hp : 0 < D.ls.length) (off each : Int) (E : Dv) (hE : E.Up) (hl : E.ls.length = D.ls.length) : E.ask off each = D.ask off each := by
  rw [ask_up h hp, ask_up hE (by omega)]; unfold Dv.size; rw [hl]
/-- What was stored is loaded. -/
theorem load_store {D : Dv} (h : D.Ok) (hu : D.Up) (hp : 0 < D.ls.length) (off : Int) (n : BitVec 64) : (D.store off n).1.load off = if D.ask off 8 = 0 then (n, 0) else (0#64, D.ask off 8) := by
  have hE := done_ask hu hp off 8 (D.store off n).1 (hu.store off n) (store_len D off n)
  unfold Dv.load
  rw [hE]
  by_cases ha : D.ask off 8 = 0
  · rw [if_pos ha, if_pos ha]
    obtain ⟨o, rfl, ho8, hos⟩ := ask8 hp ha
    have hlen := (Dv.Ok0.ln h.to0 (o / 64)).len
    unfold Dv.word
    rw [Int.toNat_natCast, store_now h n ha ho8 hos, if_pos rfl]
    obtain ⟨q, hq⟩ : ∃ q, o % 64 = 8 * q := ⟨o % 64 / 8, by omega⟩
    rw [hq, get_put _ q q n (by omega), if_pos rfl]
  · rw [if_neg ha, if_neg ha]
end NM

end Go.Proofs.Ytkljlgahdlgmpaa
