/- Fence: walks. -/
import Derived.Test.YtkljlgahdlgmpaaNvmWalk6
import Derived.Lib.SliceRun
import Derived.Test.YtkljlgahdlgmpaaPerm
namespace Go.Proofs.Ytkljlgahdlgmpaa
open Go Go.RowKit

set_option maxRecDepth 10000 in
set_option linter.unusedSimpArgs false in
/-- A clone of changes: nothing of nothing; else in new memory. -/
theorem cloneC_calls (a : Option Addr) (n c : Nat) (xs : List Value) (w0 : World) (hn : n ≤ 1099511627776) (hl : xs.length = n * 2) (hsrc : SrcAt w0 a xs) (h1 : ∀ u ∈ xs, u.oneCell' = true) (hc : a = none → n = 0 ∧ c = 0) :
    Ret Try.prog 61 #[.slice a n c] w0 fun v w' => ∃ a' c', v = .slice a' n c' ∧ w'.ownsRow w0.heap.size 94 2 (.slice a' n c') n xs ∧ Below w0.heap.size w0 w' := by
  have nilEq := fun w a n c => Lib.run_eql_slice_nil (P := Try.prog) w 90 94 a n c 0 0 Try.underlying90
  refine ret_of (args := [_]) _ Try.func61 rfl Try.ntmps61 (by simp) ?_
  have bel0 := Below.refl w0.heap.size w0
  cases a with
  | none =>
    obtain ⟨rfl, rfl⟩ := hc rfl
    have hx : xs = [] := List.eq_nil_of_length_eq_zero (by omega)
    subst hx
    simp -implicitDefEqProofs [go_sem, nilEq]
    refine body_tmp 2 rfl ?_
    simp -implicitDefEqProofs [go_sem]
    exact ⟨none, 0, ⟨rfl, rfl⟩, World.ownsRow_nil _ _ _ _, bel0⟩
  | some x =>
    simp -implicitDefEqProofs [go_sem, nilEq]
    have hlit := World.ownsRow_lit (base := w0.heap.size) (e := 94) (size := 2) w0 #[] 0 (Nat.le_refl _) (by decide) rfl
    generalize hw1 : World.alloc w0 _ = w1 at *
    have sz1 : w1.heap.size = w0.heap.size + 1 := by rw [← hw1]; simp
    have b1 : Below w0.heap.size w0 w1 := by rw [← hw1]; exact bel0.alloc (Nat.le_refl _) _
    obtain ⟨ti, tz, hti, htz, hts, htb, htc⟩ := chgI
    have hcells : ∀ j u, xs[j]? = some u → w1.cell? (x.add j) = some u := by
      rcases hsrc with ⟨h, _⟩ | ⟨y, h, hy⟩
      · cases h
      · obtain rfl : x = y := by simpa using h
        intro j u hu
        have h2 := hy j u hu
        exact (b1.cell (World.block_lt_of_cell? w0 _ h2)).trans h2
    obtain ⟨v', w2, hr2, hown, hgr, _⟩ := run_append_own (P := Try.prog) w1 w0.heap.size 90 90 94 ti tz 2 16 Try.underlying90 hti htz hts htb htc (by decide) _ _ _ hlit x n c xs hl hcells h1 (by unfold maxLen; omega) (by omega) (by omega)
    rw [Nat.zero_add] at hown
    have b2 : Below w0.heap.size w0 w2 := b1.grown hgr (by omega) (fun j hj => by simp [Value.ownBlock] at hj; omega)
    obtain ⟨a', c', rfl⟩ : ∃ a' c', v' = .slice a' n c' := by
      rcases hown.2 with ⟨h, h0⟩ | ⟨g, cap, cur, h, _⟩
      · exact ⟨none, 0, by rw [h, h0]⟩
      · exact ⟨_, _, h⟩
    have hr3 : (appendB #[90, 90] 90 #[.slice (some ⟨w0.heap.size, 0, none⟩) 0 0, .slice (some x) n c]).run Try.prog w1 = .ok (.slice a' n c') w2 := hr2
    simp -implicitDefEqProofs [go_sem, hr3]
    refine body_tmp 2 rfl ?_
    simp -implicitDefEqProofs [go_sem]
    exact ⟨a', c', ⟨rfl, rfl⟩, by simpa using hown, b2⟩

/-- The changes from one on, as they lie. -/
theorem owns_drop {w : World} {B : Nat} {e : TypeId} {a : Option Addr} {n c k : Nat} {xs : List Value} (h : w.ownsRow B e 2 (.slice a n c) n xs) (hk : k ≤ n) :
    SrcAt w (if c = k then a else Option.map (fun x => x.add (k * 2)) a) (xs.drop (k * 2)) ∧ ((if c = k then a else Option.map (fun x => x.add (k * 2)) a) = none → n - k = 0 ∧ c - k = 0) := by
  have hlen := h.1
  rcases h.2 with ⟨hv, h0⟩ | ⟨g, cap, cur, hv, hg, hh, hcap, _⟩
  · simp only [Value.slice.injEq] at hv
    obtain ⟨rfl, _, rfl⟩ := hv
    subst h0
    have : xs = [] := List.eq_nil_of_length_eq_zero (by omega)
    subst this
    exact ⟨.inl ⟨by split <;> rfl, by simp⟩, fun _ => ⟨by omega, by omega⟩⟩
  · simp only [Value.slice.injEq] at hv
    obtain ⟨rfl, _, rfl⟩ := hv
    by_cases hck : c = k
    · subst hck
      have : xs.drop (c * 2) = [] := List.drop_eq_nil_of_le (by omega)
      rw [this, if_pos rfl]
      exact ⟨.inr ⟨_, rfl, fun j u hu => by simp at hu⟩, fun h => by cases h⟩
    · rw [if_neg hck]
      refine ⟨.inr ⟨_, rfl, fun j u hu => ?_⟩, fun h => by cases h⟩
      rw [List.getElem?_drop] at hu
      have := h.cells (g := g) rfl _ _ hu
      rw [Addr.add_lit] at this
      show w.cell? (((⟨g, 0, none⟩ : Addr).add (k * 2)).add j) = some u
      rw [Addr.add_lit, Addr.add_lit, ← this, Nat.add_assoc]

theorem chgCells_one (cs : List (Nat × BitVec 64)) : ∀ u ∈ chgCells cs, u.oneCell' = true := by
  intro u hu
  simp [chgCells] at hu
  obtain ⟨a, b, _, rfl | rfl⟩ := hu <;> rfl
theorem below_undrew {B : Nat} {w w' : World} (h : Below B w.drew w') : Below B w w' := ⟨h.os, h.tape, h.output, h.size, h.block⟩
theorem chgCells_drop : ∀ (cs : List (Nat × BitVec 64)) (k : Nat), chgCells (cs.drop k) = (chgCells cs).drop (k * 2)
  | cs, 0 => by simp
  | [], k + 1 => by simp [chgCells]
  | c :: cs, k + 1 => by
    rw [List.drop_succ_cons, chgCells_drop cs k, show (k + 1) * 2 = k * 2 + 1 + 1 by omega]
    simp [chgCells]
theorem ownsRow_base {w : World} {B B' : Nat} {e : TypeId} {k : Nat} {v : Value} {n : Nat} {xs : List Value} (h : w.ownsRow B e k v n xs) (hB : B' ≤ B) : w.ownsRow B' e k v n xs := by
  obtain ⟨h1, h2⟩ := h
  refine ⟨h1, ?_⟩
  rcases h2 with h2 | ⟨g, cap, cur, hv, hg, r⟩
  · exact .inl h2
  · exact .inr ⟨g, cap, cur, hv, by omega, r⟩
theorem setLn_same (D : NM.Dv) (i : Nat) (hi : i < D.ls.length) : D.setLn i (D.ln i) = D := by
  have : D.ln i = D.ls[i] := by simp [NM.Dv.ln, List.getD, hi]
  unfold NM.Dv.setLn; rw [this, List.set_getElem_self]

set_option maxHeartbeats 1000000 in
set_option linter.unusedSimpArgs false in
theorem lfence_calls {p lb : Nat} {D : NM.Dv} {S : Nat → Spot} (i : Nat) (w0 : World) (h : DevAt w0 p lb D S) (hi : i < D.ls.length) (hn : (D.ln i).chg.length ≤ 1099511627776) :
    Ret Try.prog 46 #[.pointer (some ⟨lb, i * 66, none⟩)] w0 fun v w' => v = .tuple #[] ∧ ∃ s', DevAt w' p lb (D.setLn i (D.ln i).fence) (setS S i s') ∧ Mod (fun k => k = lb) w0 w' ∧
      (∀ k, Value.ownBlock (spotV (D.ln i).fence s') = some k → Value.ownBlock (spotV (D.ln i) (S i)) = some k ∨ w0.heap.size ≤ k) := by
  obtain ⟨C, hL⟩ := h.lines
  have hl := NM.Dv.Ok0.ln h.ok i
  have g64 := hL.blk.cell (i * 66 + 64)
  rw [hL.chg i hi, spotV] at g64
  have g65 := hL.blk.cell (i * 66 + 65)
  rw [hL.mark i hi] at g65
  refine ret_of (args := [_]) _ Try.func46 rfl Try.ntmps46 (by simp) ?_
  by_cases hm : 0 < (D.ln i).mark
  · have hm' : (0 : Int) < (D.ln i).mark := by omega
    have hwm := IntWalk.i64_in (((D.ln i).mark : Int) - 1) (by have := hl.mark; omega)
    simp -implicitDefEqProofs [go_sem, g65, hm, hm']
    have c64 := fun w' (hw : Below w0.heap.size w0 w') => (hL.blk.next hw).cell (i * 66 + 64)
    have c65 := fun w' (hw : Below w0.heap.size w0 w') => (hL.blk.next hw).cell (i * 66 + 65)
    rw [hL.chg i hi, spotV] at c64
    rw [hL.mark i hi] at c65
    refine drawE_perm [0, 1, 2, 3, 4, 5, 6, 7, 8, 9, 10] [11] [12, 13, 14] (fun w' => Below w0.heap.size w0 w') mixed (by decide +kernel) (by decide +kernel) (by simp only [List.filterMap_cons, List.filterMap_nil, List.getElem?_cons_succ, List.getElem?_cons_zero]; rfl) (by simp only [List.filterMap_cons, List.filterMap_nil, List.getElem?_cons_succ, List.getElem?_cons_zero]; rfl) (by simp only [List.filterMap_cons, List.filterMap_nil, List.getElem?_cons_succ, List.getElem?_cons_zero]; rfl) (by first | exact (Below.refl _ _).drew | (subst_vars; exact (Below.refl _ _).drew)) (fun hsome => ?_)
    simp -implicitDefEqProofs [go_sem, hsome]
    refine onHeld_of (.slice (S i).1 (D.ln i).chg.length (S i).2) (fun w' hw => by simp -implicitDefEqProofs [go_sem, c64 w' hw]) ?_
    simp -implicitDefEqProofs [go_sem, hsome]
    refine onHeld_of (.int .i64 ((D.ln i).mark : Int)) (fun w' hw => by simp -implicitDefEqProofs [go_sem, c65 w' hw]) ?_
    simp -implicitDefEqProofs [go_sem, hsome, hwm]
    have hmk := hl.mark
    have hm1 : 1 ≤ (D.ln i).mark := by omega
    have hm2 : ((D.ln i).mark : Int) - 1 ≤ ((D.ln i).chg.length : Int) := by omega
    obtain ⟨k, hk⟩ : ∃ k, (D.ln i).mark = k + 1 := ⟨(D.ln i).mark - 1, by omega⟩
    have hkn : k ≤ (D.ln i).chg.length := by omega
    have hfe : (D.ln i).fence = { D.ln i with chg := (D.ln i).chg.drop k, mark := 0 } := by unfold NM.Ln.fence; rw [if_pos hm, hk]; rfl
    obtain ⟨hsrc, hnil⟩ := owns_drop (h.own i hi) hkn
    have hxl : ((chgCells (D.ln i).chg).drop (k * 2)).length = ((D.ln i).chg.length - k) * 2 := by rw [List.length_drop, (h.own i hi).1]; omega
    have hx1 : ∀ u ∈ (chgCells (D.ln i).chg).drop (k * 2), u.oneCell' = true := fun u hu => chgCells_one _ u (List.mem_of_mem_drop hu)
    have hcl := cloneC_calls _ ((D.ln i).chg.length - k) ((S i).2 - k) _ w0.drew (by omega) hxl hsrc hx1 hnil
    refine onHeld_of (.slice (if (S i).2 = k then (S i).1 else Option.map (fun x => x.add (k * 2)) (S i).1) ((D.ln i).chg.length - k) ((S i).2 - k)) (fun w' hw => by simp -implicitDefEqProofs [go_sem, hk, show ¬ ((k : Int) + 1 < 1) by omega, show k ≤ (D.ln i).chg.length by omega]) ?_
    simp -implicitDefEqProofs [go_sem, hsome]
    unfold endE
    simp -implicitDefEqProofs [go_sem]
    refine callE_of hcl ?_
    rintro v w1 ⟨a', c', rfl, hown, bel⟩
    have bel' : Below w0.heap.size w0 w1 := below_undrew bel
    refine ⟨bel', ?_⟩
    have hB1 := hL.blk.next bel'
    have f64 := hB1.thaw (i * 66 + 64)
    have f65 := hB1.thaw (i * 66 + 65)
    have g64 := hB1.cell (i * 66 + 64)
    rw [hL.chg i hi, spotV] at g64
    have hB2 := hB1.set (i * 66 + 64) (.slice a' ((D.ln i).chg.length - k) c')
    have f65' := hB2.thaw (i * 66 + 65)
    have g65 := hB2.cell (i * 66 + 65)
    rw [Array.getElem?_setIfInBounds, if_neg (by omega), hL.mark i hi] at g65
    have hB3 := hB2.set (i * 66 + 65) (.int .i64 0)
    simp -implicitDefEqProofs [go_sem, f64, f65, g64, g65, f65']
    refine body_end (body_none rfl ?_)
    have hmL : Mod (fun k => k = lb) w1 ((w1.setCell ⟨lb, i * 66 + 64, none⟩ (.slice a' ((D.ln i).chg.length - k) c')).setCell ⟨lb, i * 66 + 65, none⟩ (.int .i64 0)) := ((Mod.refl (fun k => k = lb) w1).setCell (a := ⟨lb, i * 66 + 64, none⟩) (.inl rfl) _).setCell (a := ⟨lb, i * 66 + 65, none⟩) (.inl rfl) _
    have hmA : Mod (fun k => k = lb) w0 _ := (Mod.of bel').trans hmL (fun k hk _ => hk)
    have hlbw := hL.blk.lt
    have howns := ownsRow_mod hown hmL (fun g hg e => by have := (hown.lt g hg).1; have : w0.drew.heap.size = w0.heap.size := rfl; omega)
    have hCs : i * 66 + 66 ≤ C.size := by rw [hL.size]; omega
    have hsp : spotV (D.ln i).fence (a', c') = .slice a' ((D.ln i).chg.length - k) c' := by unfold spotV; rw [hfe]; simp
    have hwh : ∀ k, Value.ownBlock (spotV (D.ln i).fence (a', c')) = some k → Value.ownBlock (spotV (D.ln i) (S i)) = some k ∨ w0.heap.size ≤ k := fun g hg => by
      rw [hsp] at hg
      exact .inr (hown.lt g hg).1
    have hg : ∀ j, ((C.setIfInBounds (i * 66 + 64) (.slice a' ((D.ln i).chg.length - k) c')).setIfInBounds (i * 66 + 65) (.int .i64 0))[j]? = if j = i * 66 + 65 then some (.int .i64 0) else if j = i * 66 + 64 then some (.slice a' ((D.ln i).chg.length - k) c') else C[j]? := fun j => by
      rw [Array.getElem?_setIfInBounds, Array.getElem?_setIfInBounds]
      by_cases e : j = i * 66 + 65
      · subst e; rw [if_pos rfl, if_pos rfl, if_pos (by simp; omega)]
      · rw [if_neg (fun e2 => e e2.symm), if_neg e]
        by_cases e2 : j = i * 66 + 64
        · subst e2; rw [if_pos rfl, if_pos rfl, if_pos (by omega)]
        · rw [if_neg (fun e3 => e2 e3.symm), if_neg e2]
    refine ⟨rfl, (a', c'), ?_, hmA, hwh⟩
    refine h.setLine hL hi hl.fence hB3 (by simp) (fun j hj => by rw [hg, if_neg (by omega), if_neg (by omega)]) (fun j hj => by rw [hg, if_neg (by omega), if_neg (by omega), hfe]; exact hL.now i hi j hj)
      (by rw [hg, if_neg (by omega), if_pos rfl, hsp]) (by rw [hg, if_pos rfl, hfe]; rfl) hmA (fun k hk => .inl hk) ?_ hwh
    rw [hsp, hfe]
    have e1 : chgCells ((D.ln i).chg.drop k) = (chgCells (D.ln i).chg).drop (k * 2) := chgCells_drop _ _
    rw [e1, List.length_drop]
    exact ownsRow_base howns (Nat.zero_le _)
  · have hm' : ¬ (0 : Int) < (D.ln i).mark := by omega
    have hf : (D.ln i).fence = D.ln i := by unfold NM.Ln.fence; rw [if_neg hm]
    simp -implicitDefEqProofs [go_sem, g65, hm, hm']
    refine body_end (body_none rfl ?_)
    rw [hf, setLn_same D i hi]
    exact ⟨rfl, S i, by rw [setS_same]; exact h, Mod.refl _ _, fun k hk => .inl hk⟩
end Go.Proofs.Ytkljlgahdlgmpaa
