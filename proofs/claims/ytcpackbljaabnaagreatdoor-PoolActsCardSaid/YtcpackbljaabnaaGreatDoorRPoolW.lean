/- RPoolW: texts in one: RPool2, RPool3, RPool4, RPool5, RPool6, RPool7, RPoolN, PoolBoth. -/
import Derived.Test.YtcpackbljaabnaaGreatDoorRPool1
import Derived.Test.YtcpackbljaabnaaGreatDoorRPlain
/-! ### RPool2 -/
namespace Go.Proofs.YtcpackbljaabnaaGreatDoor
set_option linter.unusedVariables false
set_option linter.unusedSimpArgs false
set_option maxRecDepth 100000
open Go Go.RowKit

def NoB (s : HM.Shape) (l : List (BitVec 64)) (off : Int) (n : Nat) : Prop := ∀ j q, j < n → q < 16 → WM.tR (l.getD j 0#64) q = true → off ≠ placeI s j (WM.cR (l.getD j 0#64) : Nat) q
def NoQ (s : HM.Shape) (u : BitVec 64) (off : Int) (i n : Nat) : Prop := ∀ q, q < n → WM.tR u q = true → off ≠ placeI s i (WM.cR u : Nat) q
theorem noQ_step {s : HM.Shape} {u : BitVec 64} {off : Int} {i n : Nat} (h : NoQ s u off i n) (h2 : WM.tR u n = true → off ≠ placeI s i (WM.cR u : Nat) n) : NoQ s u off i (n + 1) := fun q hq ht => by
  by_cases e : q = n
  · subst e; exact h2 ht
  · exact h q (by omega) ht
theorem noB_step {s : HM.Shape} {l : List (BitVec 64)} {off : Int} {n : Nat} (h : NoB s l off n) (h2 : NoQ s (l.getD n 0#64) off n 16) : NoB s l off (n + 1) := fun j q hj hq ht => by
  by_cases e : j = n
  · subst e; exact h2 q hq ht
  · exact h j q (by omega) hq ht
section
set_option maxHeartbeats 1000000
theorem rFind_calls (s : HM.Shape) (x y z : Value) (off : Int) (w0 : World) {T B l : List (BitVec 64)} (hx : SlV w0 x T) (hy : SlV w0 y B) (hz : SlV w0 z l) (hl : l.length ≤ 64) (hs : 0 ≤ s.data ∧ s.data ≤ 1000000) :
    Ret Tryz.prog 45 #[.agg (rpC s x y), z, .int .i64 off] w0 fun v w' => Below w0.heap.size w0 w' ∧
      ((∃ i q : Nat, v = .tuple #[.int .i64 (i : Int), .int .i64 (q : Int)] ∧ FoundP s l off i q) ∨ (v = .tuple #[.int .i64 (-1), .int .i64 (-1)] ∧ NoneFound s l off)) := by
  have bel0 := Below.refl w0.heap.size w0
  obtain ⟨a, c, rfl, hin⟩ := hz
  have hpl := fun (w : World) (i : Nat) (q : Nat) (k : Int) (hw : Below w0.heap.size w0 w) (hi : i ≤ 1000) (hq : q ≤ 1000) => rPlace_calls s x y i k q w (hx.next hw) (hy.next hw) hs hi hq
  have hone := rpC_one s hx hy
  have hst : Tryz.prog.underlying 35 = _ := Tryz.underlying35
  refine ret_of (args := [_, _, _]) _ Tryz.func45 rfl Tryz.ntmps45 (by simp) ?_
  simp -implicitDefEqProofs [go_sem]
  generalize hw1 : World.alloc w0 _ = w1 at *
  obtain ⟨hB1, b1, sz1⟩ := new_facts hw1
  have bel1 := bel0.trans (b1.mono bel0.size)
  obtain ⟨gb, hgb⟩ : ∃ g, g = w0.heap.size := ⟨_, rfl⟩
  have hlt1 := hB1.lt
  refine wpE_loop (fun e' w' => ∃ i : Nat, i ≤ l.length ∧ e' 1 = .slice a l.length c ∧ e' 2 = .int .i64 off ∧ e' 3 = .pointer (some ⟨w0.heap.size, 0, none⟩) ∧ e' 8 = .int .i64 (i : Int) ∧ Blk w' w0.heap.size (rpC s x y) 35 ∧ Below w0.heap.size w0 w' ∧
    NoB s l off i) (fun e' _ => l.length - (intOf (e' 8)).toNat) ?_ ?_
  · refine ⟨0, by omega, ?_⟩
    simp -implicitDefEqProofs [go_sem]
    exact ⟨hB1, bel1, fun j q hj => by omega⟩
  · rintro e' w2 ⟨i, hi, g1, g2, g3, g8, hB2, bel2, hno⟩
    by_cases hil : i < l.length
    · have hil' : (i : Int) < l.length := by omega
      have k1 := IntWalk.i64_in ((i : Int) + 1) (by omega)
      obtain ⟨bz, oz, rfl, gz⟩ := (hin.next bel2).at_.cell hil
      obtain ⟨u, hu⟩ : ∃ u, u = l.getD i 0#64 := ⟨_, rfl⟩
      have hui : l[i] = u := by rw [hu]; simp [List.getD, hil]
      rw [hui] at gz
      simp -implicitDefEqProofs [go_sem, g1, g2, g3, g8, hil, hil', gz]
      refine callE_of (of_calls u w2) ?_
      rintro v w3 ⟨rfl, b3⟩
      have bel3 := bel2.trans (b3.mono bel2.size)
      have hB3 := hB2.next b3
      simp -implicitDefEqProofs [go_sem, g1, g2, g3, g8, ↓stSlab (WM.cR u) (WM.tR u)]
      have hsl := slabC_at (WM.cR u) (WM.tR u)
      have hsl0 := slabC_0 (WM.cR u) (WM.tR u)
      generalize hw4 : World.alloc w3 _ = w4 at *
      obtain ⟨hB4, b4, sz4⟩ := new_facts hw4
      have bel4 := bel3.trans (b4.mono bel3.size)
      replace hB3 := hB3.next b4
      have hlt4 := hB4.lt
      refine wpE_loop (fun e2 w' => ∃ q : Nat, q ≤ 16 ∧ e2 1 = .slice (some ⟨bz, oz, none⟩) l.length c ∧ e2 2 = .int .i64 off ∧ e2 3 = .pointer (some ⟨w0.heap.size, 0, none⟩) ∧ e2 8 = .int .i64 (i : Int) ∧ e2 9 = .pointer (some ⟨w3.heap.size, 0, none⟩) ∧ e2 11 = .int .i64 (q : Int) ∧
        Blk w' w0.heap.size (rpC s x y) 35 ∧ Blk w' w3.heap.size (slabC (WM.cR u) (WM.tR u)) 93 ∧ Below w0.heap.size w0 w' ∧
        NoQ s u off i q) (fun e2 _ => 16 - (intOf (e2 11)).toNat) ?_ ?_
      · refine ⟨0, by omega, ?_⟩
        simp -implicitDefEqProofs [go_sem, g1, g2, g3, g8]
        exact ⟨hB3, hB4, bel4, fun q hq => by omega⟩
      · rintro e2 w5 ⟨q, hq, q1, q2, q3, q8, q9, q11, hB5, hS5, bel5, hno2⟩
        by_cases hq16 : q < 16
        · have hq16' : (q : Int) < 16 := by omega
          have r1 := IntWalk.i64_in ((q : Int) + 1) (by omega)
          have hld := ldAll (P := Tryz.prog) hB5 hst rfl rpI rfl
          have hcell := hS5.cell (1 + q)
          rw [slabC_at _ _ q hq16] at hcell
          have hcell0 := hS5.cell 0
          rw [slabC_0] at hcell0
          cases ht : WM.tR u q with
          | false =>
            rw [ht] at hcell
            simp -implicitDefEqProofs [go_sem, q1, q2, q3, q8, q9, q11, hq16, hq16', hcell, hcell0, r1]
            refine goE_round ⟨q + 1, by omega, ?_⟩ ?_
            · simp -implicitDefEqProofs [go_sem, q1, q2, q3, q8, q9]
              exact ⟨hB5, hS5, bel5, noQ_step hno2 (fun h => by rw [ht] at h; cases h)⟩
            · simp -implicitDefEqProofs [go_sem, intOf, q11, r1]; omega
          | true =>
            rw [ht] at hcell
            simp -implicitDefEqProofs [go_sem, q1, q2, q3, q8, q9, q11, hq16, hq16', hcell, hcell0, ↓hld]
            refine callE_of (hpl w5 i q _ bel5 (by omega) (by omega)) ?_
            rintro v w6 ⟨rfl, b6⟩
            have bel6 := bel5.trans (b6.mono bel5.size)
            obtain ⟨pl, hpl2⟩ : ∃ pl, pl = placeI s i (WM.cR u : Nat) q := ⟨_, rfl⟩
            rw [← hpl2]
            by_cases he : pl = off
            · have heb : (pl == off) = true := by rw [beq_iff_eq]; exact he
              have hF : FoundP s l off i q := ⟨hil, hq16, by rw [← hu]; exact ht, by rw [← hu, ← hpl2]; exact he.symm⟩
              simp -implicitDefEqProofs [go_sem, q1, q2, q3, q8, q9, q11, heb, he]
              refine body_tmp2 6 7 rfl ?_
              simp -implicitDefEqProofs [go_sem]
              exact ⟨bel6, i, q, ⟨rfl, rfl⟩, hF⟩
            · have heb : (pl == off) = false := by rw [beq_eq_false_iff_ne]; exact he
              simp -implicitDefEqProofs [go_sem, q1, q2, q3, q8, q9, q11, heb, he, r1]
              refine goE_round ⟨q + 1, by omega, ?_⟩ ?_
              · simp -implicitDefEqProofs [go_sem, q1, q2, q3, q8, q9]
                exact ⟨hB5.next b6, hS5.next b6, bel6, noQ_step hno2 (fun _ e => he (by rw [hpl2, ← e]))⟩
              · simp -implicitDefEqProofs [go_sem, intOf, q11, r1]; omega
        · have hq2 : q = 16 := by omega
          simp -implicitDefEqProofs [go_sem, q1, q2, q3, q8, q9, q11, hq2, k1]
          refine goE_round ⟨i + 1, by omega, ?_⟩ ?_
          · simp -implicitDefEqProofs [go_sem, q1, q2, q3]
            exact ⟨hB5, bel5, noB_step hno (by rw [← hu, ← hq2]; exact hno2)⟩
          · simp -implicitDefEqProofs [go_sem, intOf, g8, q8, k1]; omega
    · have hi' : i = l.length := by omega
      simp -implicitDefEqProofs [go_sem, g1, g2, g3, g8, hi']
      refine body_tmp2 6 7 rfl ?_
      simp -implicitDefEqProofs [go_sem]
      exact ⟨bel2, fun j q hj hq ht => hno j q (by omega) hq ht⟩
end
end Go.Proofs.YtcpackbljaabnaaGreatDoor

/-! ### RPool3 -/
namespace Go.Proofs.YtcpackbljaabnaaGreatDoor
set_option linter.unusedVariables false
set_option linter.unusedSimpArgs false
set_option maxRecDepth 100000
open Go Go.RowKit

section
variable {m : Nat} {V : PV}
set_option maxHeartbeats 1000000
theorem rTake_calls (hw : Well m V) (hm : 1 ≤ m ∧ m ≤ 4) (x y : Value) (off : Int) (w0 : World) (hx : SlV w0 x V.T) (hy : SlV w0 y (bL V)) :
    Ret Tryz.prog 14 #[.agg (rpC (shN m) x y), .int .i64 off] w0 fun v w' => ∃ x' y', v = .tuple #[.agg (rpC (shN m) x' y'), .int .i64 (takeV (shN m) V off).2] ∧ SlV w' x' (takeV (shN m) V off).1.T ∧ SlV w' y' (bL (takeV (shN m) V off).1) ∧ Below w0.heap.size w0 w' ∧ FreshOr w0 x x' ∧ FreshOr w0 y y' := by
  have bel0 := Below.refl w0.heap.size w0
  have hdat := dat_ok m
  have hTl : V.T.length ≤ 64 := by rw [hw.len]; omega
  have hBl : (bL V).length ≤ 64 := by rw [bL_len]; exact hTl
  have hst : Tryz.prog.underlying 35 = _ := Tryz.underlying35
  have hone := rpC_one (shN m) hx hy
  have hx0 := hx
  have hy0 := hy
  refine ret_of (args := [_, _]) _ Tryz.func14 rfl Tryz.ntmps14 (by simp) ?_
  have hld := fun (w : World) (hB : Blk w w0.heap.size (rpC (shN m) x y) 35) => ldAll (P := Tryz.prog) hB hst rfl rpI rfl
  have hBa : Blk ((w0.alloc (.cells (rpC (shN m) x y) 35)).alloc (.cells #[.int .i64 0, .int .i64 0, .int .i64 0, .int .i64 0, .slice none 0 0, .slice none 0 0] 35)) w0.heap.size (rpC (shN m) x y) 35 := (Blk.new w0 _ _).next ((Below.refl _ _).alloc (Nat.le_refl _) _)
  simp -implicitDefEqProofs [go_sem, ↓hld _ hBa, hBa.cell, rpC_5]
  clear hBa
  generalize hw1 : World.alloc w0 _ = w1 at *
  obtain ⟨hB1, b1, sz1⟩ := new_facts hw1
  have bel1 := bel0.trans (b1.mono bel0.size)
  replace hx := hx.next b1
  replace hy := hy.next b1
  rw [← sz1]
  generalize hw2 : World.alloc w1 _ = w2 at *
  obtain ⟨hB2, b2, sz2⟩ := new_facts hw2
  have bel2 := bel1.trans (b2.mono bel1.size)
  replace hx := hx.next b2
  replace hy := hy.next b2
  replace hB1 := hB1.next b2
  refine callE_of (rFind_calls (shN m) x y y off w2 hx hy hy hBl hdat) ?_
  rintro v w3 ⟨b3, hf1⟩
  have bel3 := bel2.trans (b3.mono bel2.size)
  replace hx := hx.next b3
  replace hy := hy.next b3
  replace hB1 := hB1.next b3
  replace hB2 := hB2.next b3
  rcases hf1 with ⟨i, q, rfl, hf1⟩ | ⟨rfl, hn1⟩
  · simp -implicitDefEqProofs [go_sem, ↓hld _ hB1, hB1.cell, rpC_4]
    refine callE_of (rFind_calls (shN m) x y x off w3 hx hy hx hTl hdat) ?_
    rintro v w4 ⟨b4, hf2⟩
    have bel4 := bel3.trans (b4.mono bel3.size)
    replace hx := hx.next b4
    replace hy := hy.next b4
    replace hB1 := hB1.next b4
    replace hB2 := hB2.next b4
    rcases hf2 with ⟨i2, q2, rfl, hf2⟩ | ⟨rfl, hn2⟩
    · rw [takV_old hw hm hf2]
      have hsA := stAll (P := Tryz.prog) (cs := rpC (shN m) x y) hB2 rpI rfl (rpC_one (shN m) hx hy)
      have n1 : ¬ (i : Int) < 0 := by omega
      have n2 : (0 : Int) ≤ (i2 : Int) := by omega
      simp -implicitDefEqProofs [go_sem, n1, n2, ↓hld _ hB1, ↓hsA]
      refine bodyCell 4 5 rfl (by simp -implicitDefEqProofs [go_sem]) (hB2.row _) hst rfl rpI ?_
      simp -implicitDefEqProofs [go_sem]
      exact ⟨x, y, rfl, hx0.next (Below.row bel4 (by omega) _), hy0.next (Below.row bel4 (by omega) _), Below.row bel4 (by omega) _, .inl rfl, .inl rfl⟩
    · obtain ⟨hi, hq, ht1, ht2, ht3⟩ := takV_at hw hm hf1 hn2
      obtain ⟨ay, cy, rfl, hyin⟩ := hy
      have hiB : i < (bL V).length := by rw [bL_len, hw.len]; exact hi
      have hiT : i < V.T.length := by rw [hw.len]; exact hi
      obtain ⟨bz, oz, rfl, gz⟩ := hyin.at_.cell hiB
      have hui : (bL V)[i] = bF V.T V.H i := by have := bL_get V hiT; simpa [List.getD, hiB] using this
      rw [hui] at gz
      obtain ⟨u, hu⟩ : ∃ u, u = bF V.T V.H i := ⟨_, rfl⟩
      rw [← hu] at gz ht2
      have n1 : ¬ (i : Int) < 0 := by omega
      have hiB' : (i : Int) < (bL V).length := by omega
      simp -implicitDefEqProofs [go_sem, n1, hB1.cell, rpC_5, rpC_4, hiB, hiB', gz]
      refine callE_of (of_calls u w4) ?_
      rintro v w5 ⟨rfl, b5⟩
      have bel5 := bel4.trans (b5.mono bel4.size)
      replace hx := hx.next b5
      replace hB1 := hB1.next b5
      replace hB2 := hB2.next b5
      simp -implicitDefEqProofs [go_sem, ↓stSlab (WM.cR u) (WM.tR u)]
      have hsl0 := slabC_0 (WM.cR u) (WM.tR u)
      generalize hw6 : World.alloc w5 _ = w6 at *
      obtain ⟨hB6, b6, sz6⟩ := new_facts hw6
      have bel6 := bel5.trans (b6.mono bel5.size)
      replace hx := hx.next b6
      replace hB1 := hB1.next b6
      replace hB2 := hB2.next b6
      refine drawE_mix [.pure 0, .pure 2, .pure 5, .pure 7, .take 1, .pure 3, .take 4, .run 6 [1, 4], .run 8 [], .pure 9, .pure 10, .pure 11, .pure 12, .pure 13] mixed (by decide +kernel) (by simp only [withOps, MStep.num, List.filterMap_cons, List.filterMap_nil, List.getElem?_cons_succ, List.getElem?_cons_zero, Option.map_some]; rfl) ?_
      replace hx := hx.next (Below.refl _ _).drew
      replace hB1 := hB1.next (Below.refl _ _).drew
      replace hB2 := hB2.next (Below.refl _ _).drew
      have hS := hB6.next (Below.refl _ _).drew
      have bel6 := bel6.drew
      generalize World.drew w6 = w7 at *
      have hx7 := hx
      have hlt2 : w1.heap.size < w7.heap.size := hB2.lt
      obtain ⟨ax, cx, rfl, hxin⟩ := hx
      obtain ⟨bt, ot, rfl, gt⟩ := hxin.at_.cell hiT
      obtain ⟨t, ht⟩ : ∃ t, t = V.T.getD i 0#64 := ⟨_, rfl⟩
      have hti : V.T[i] = t := by rw [ht]; simp [List.getD, hiT]
      rw [hti] at gt
      rw [← ht] at ht2
      have hiT' : (i : Int) < V.T.length := by omega
      have gS : ∀ w', Below w7.heap.size w7 w' → w'.cell? ⟨bt, ot + i, none⟩ = some (.int .u64 (uv t)) := fun w' h => (h.cell (p := ⟨_, _, none⟩) (World.block_lt_of_cell? w7 _ gt)).trans gt
      have hc0 := hS.cell 0
      rw [slabC_0] at hc0
      simp -implicitDefEqProofs [go_sem]
      refine onTake_of (fun w' => Below w7.heap.size w7 w') (.slice (some ⟨bt, ot, none⟩) V.T.length cx) (Below.refl _ _) (fun w' hw => by simp -implicitDefEqProofs [go_sem, (hB1.next hw).cell, rpC_4]) ?_
      simp -implicitDefEqProofs [go_sem, hiT, hiT']
      refine onTake_of (fun w' => Below w7.heap.size w7 w') (.int .u64 (uv t)) (Below.refl _ _) (fun w' hw => by simp -implicitDefEqProofs [go_sem, gS w' hw]) ?_
      simp -implicitDefEqProofs [go_sem, hc0]
      refine callE_of (refTake_calls t (WM.cR u : Nat) (q : Nat) w7) ?_
      rintro v w8 ⟨rfl, b8⟩
      refine ⟨.inr (by simp -implicitDefEqProofs [go_sem] <;> exact b8), ?_⟩
      have bel8 := bel6.trans (b8.mono bel6.size)
      replace hx7 := hx7.next b8
      replace hB1 := hB1.next b8
      replace hB2 := hB2.next b8
      obtain ⟨u2, hu2⟩ : ∃ u2, u2 = WM.takeW t (WM.cR u : Nat) (q : Nat) := ⟨_, rfl⟩
      rw [← hu2] at ht2 ⊢
      generalize WM.takeOk t (WM.cR u : Nat) (q : Nat) = tk at *
      have hput := rPut_calls (.slice (some ⟨bt, ot, none⟩) V.T.length cx) i u2 w8 hx7 hiT (by omega)
      simp -implicitDefEqProofs [go_sem, hB1.cell, rpC_4]
      refine callE_of hput ?_
      rintro v w9 ⟨g, c9, rfl, hg, hin9, b9⟩
      have bel9 := bel8.trans (b9.mono bel8.size)
      replace hB1 := hB1.next b9
      replace hB2 := hB2.next b9
      have hgl : g < w9.heap.size := by
        obtain ⟨b', o', e2, g2⟩ := hin9.at_.cell (i := i) (by rw [List.length_set]; assumption)
        cases e2
        exact World.block_lt_of_cell? w9 _ g2
      have hBs := hB1.set 4 (.slice (some ⟨g, 0, none⟩) V.T.length c9)
      rw [rpC_set4] at hBs
      have hM9 : Mod (fun k => k = w0.heap.size) w9 (w9.setCell ⟨w0.heap.size, 4, none⟩ (.slice (some ⟨g, 0, none⟩) V.T.length c9)) := (Mod.refl (fun k => k = w0.heap.size) w9).setCell (.inl rfl) _
      have hB2s := hB2.mod hM9 (fun e => by have e : w1.heap.size = w0.heap.size := e; omega)
      have hz1 := b8.size
      have hz2 : w1.heap.size < w8.heap.size := Nat.lt_of_lt_of_le hlt2 b8.size
      have hN9 : SlV w9 (.slice (some ⟨g, 0, none⟩) V.T.length c9) (V.T.set i u2) := ⟨_, _, by rw [List.length_set], hin9⟩
      have hNs := hN9.mod hM9 (fun b o n c e h => by cases e; have h : g = w0.heap.size := h; omega)
      have belS : Below w0.heap.size w0 (w9.setCell ⟨w0.heap.size, 4, none⟩ (.slice (some ⟨g, 0, none⟩) V.T.length c9)) := bel9.setCell (Nat.le_refl _) _
      have hf4 := hB1.thaw 4
      have hsA := stAll (P := Tryz.prog) (cs := rpC (shN m) (.slice (some ⟨g, 0, none⟩) V.T.length c9) (.slice (some ⟨bz, oz, none⟩) (bL V).length cy)) hB2s rpI rfl (rpC_one (shN m) hNs (hy0.next belS))
      have hld2 := ldAll (P := Tryz.prog) hBs hst rfl rpI rfl
      simp -implicitDefEqProofs [go_sem, hB1.cell, rpC_4, hf4, ↓hld2, ↓hsA]
      refine bodyCell 4 5 rfl (by simp -implicitDefEqProofs [go_sem]) (hB2s.row _) hst rfl rpI ?_
      simp -implicitDefEqProofs [go_sem]
      have belF := fun C => Below.row (g := w1.heap.size) belS (by omega) C
      have hN := fun C => hNs.mod ((Mod.refl (fun k => k = w1.heap.size) _).row (.inl rfl) C) (fun b o n c e h => by cases e; have h : g = w1.heap.size := h; omega)
      rw [ht1, ht2, ht3]
      exact ⟨_, _, ⟨rfl, rfl⟩, hN _, hy0.next (belF _), belF _, .inr ⟨g, 0, _, _, rfl, by have := bel8.size; omega⟩, .inl rfl⟩
  · rw [takV_none hw hm hn1]
    simp -implicitDefEqProofs [go_sem, ↓hld _ hB1, hB1.cell, rpC_4]
    refine callE_of (rFind_calls (shN m) x y x off w3 hx hy hx hTl hdat) ?_
    rintro v w4 ⟨b4, hf2⟩
    have bel4 := bel3.trans (b4.mono bel3.size)
    replace hx := hx.next b4
    replace hy := hy.next b4
    replace hB1 := hB1.next b4
    replace hB2 := hB2.next b4
    have hsA := stAll (P := Tryz.prog) (cs := rpC (shN m) x y) hB2 rpI rfl (rpC_one (shN m) hx hy)
    rcases hf2 with ⟨i2, q2, rfl, -⟩ | ⟨rfl, -⟩
    · simp -implicitDefEqProofs [go_sem, ↓hld _ hB1, ↓hsA]
      refine bodyCell 4 5 rfl (by simp -implicitDefEqProofs [go_sem]) (hB2.row _) hst rfl rpI ?_
      simp -implicitDefEqProofs [go_sem]
      exact ⟨x, y, rfl, hx0.next (Below.row bel4 (by omega) _), hy0.next (Below.row bel4 (by omega) _), Below.row bel4 (by omega) _, .inl rfl, .inl rfl⟩
    · simp -implicitDefEqProofs [go_sem, ↓hld _ hB1, ↓hsA]
      refine bodyCell 4 5 rfl (by simp -implicitDefEqProofs [go_sem]) (hB2.row _) hst rfl rpI ?_
      simp -implicitDefEqProofs [go_sem]
      exact ⟨x, y, rfl, hx0.next (Below.row bel4 (by omega) _), hy0.next (Below.row bel4 (by omega) _), Below.row bel4 (by omega) _, .inl rfl, .inl rfl⟩
end
end Go.Proofs.YtcpackbljaabnaaGreatDoor

/-! ### RPool4 -/
namespace Go.Proofs.YtcpackbljaabnaaGreatDoor
set_option linter.unusedVariables false
set_option linter.unusedSimpArgs false
set_option maxRecDepth 100000
open Go Go.RowKit

section
variable {m : Nat} {V : PV}
set_option maxHeartbeats 1000000
theorem rDrop_calls (hw : Well m V) (hm : 1 ≤ m ∧ m ≤ 4) (x y : Value) (off : Int) (w0 : World) (hx : SlV w0 x V.T) (hy : SlV w0 y (bL V)) :
    Ret Tryz.prog 12 #[.agg (rpC (shN m) x y), .int .i64 off] w0 fun v w' => ∃ x' y', v = .tuple #[.agg (rpC (shN m) x' y'), .int .i64 (dropV (shN m) V off).2] ∧ SlV w' x' (dropV (shN m) V off).1.T ∧ SlV w' y' (bL (dropV (shN m) V off).1) ∧ Below w0.heap.size w0 w' ∧ FreshOr w0 x x' ∧ FreshOr w0 y y' := by
  have bel0 := Below.refl w0.heap.size w0
  have hdat := dat_ok m
  have hTl : V.T.length ≤ 64 := by rw [hw.len]; omega
  have hBl : (bL V).length ≤ 64 := by rw [bL_len]; exact hTl
  have hst : Tryz.prog.underlying 35 = _ := Tryz.underlying35
  have hx0 := hx
  have hy0 := hy
  refine ret_of (args := [_, _]) _ Tryz.func12 rfl Tryz.ntmps12 (by simp) ?_
  have hld := fun (w : World) (hB : Blk w w0.heap.size (rpC (shN m) x y) 35) => ldAll (P := Tryz.prog) hB hst rfl rpI rfl
  have hBa : Blk ((w0.alloc (.cells (rpC (shN m) x y) 35)).alloc (.cells #[.int .i64 0, .int .i64 0, .int .i64 0, .int .i64 0, .slice none 0 0, .slice none 0 0] 35)) w0.heap.size (rpC (shN m) x y) 35 := (Blk.new w0 _ _).next ((Below.refl _ _).alloc (Nat.le_refl _) _)
  simp -implicitDefEqProofs [go_sem, ↓hld _ hBa, hBa.cell, rpC_5]
  clear hBa
  generalize hw1 : World.alloc w0 _ = w1 at *
  obtain ⟨hB1, b1, sz1⟩ := new_facts hw1
  have bel1 := bel0.trans (b1.mono bel0.size)
  replace hx := hx.next b1
  replace hy := hy.next b1
  rw [← sz1]
  generalize hw2 : World.alloc w1 _ = w2 at *
  obtain ⟨hB2, b2, sz2⟩ := new_facts hw2
  have bel2 := bel1.trans (b2.mono bel1.size)
  replace hx := hx.next b2
  replace hy := hy.next b2
  replace hB1 := hB1.next b2
  refine callE_of (rFind_calls (shN m) x y y off w2 hx hy hy hBl hdat) ?_
  rintro v w3 ⟨b3, hf1⟩
  have bel3 := bel2.trans (b3.mono bel2.size)
  replace hx := hx.next b3
  replace hy := hy.next b3
  replace hB1 := hB1.next b3
  replace hB2 := hB2.next b3
  rcases hf1 with ⟨i, q, rfl, hf1⟩ | ⟨rfl, hn1⟩
  · obtain ⟨hi, hq, ht1, ht2, ht3⟩ := drpV_at hw hm hf1
    have hyS := hy
    obtain ⟨ay, cy, rfl, hyin⟩ := hy
    have hiB : i < (bL V).length := by rw [bL_len, hw.len]; exact hi
    have hiT : i < V.T.length := by rw [hw.len]; exact hi
    obtain ⟨bz, oz, rfl, gz⟩ := hyin.at_.cell hiB
    have hui : (bL V)[i] = bF V.T V.H i := by have := bL_get V hiT; simpa [List.getD, hiB] using this
    rw [hui] at gz
    obtain ⟨u, hu⟩ : ∃ u, u = bF V.T V.H i := ⟨_, rfl⟩
    rw [← hu] at gz ht2
    have n1 : ¬ (i : Int) < 0 := by omega
    have hiB' : (i : Int) < (bL V).length := by omega
    simp -implicitDefEqProofs [go_sem, n1, hB1.cell, rpC_5, rpC_4, hiB, hiB', gz]
    refine callE_of (refDrop_calls u (q : Nat) w3) ?_
    rintro v w4 ⟨rfl, b4⟩
    have bel4 := bel3.trans (b4.mono bel3.size)
    replace hx := hx.next b4
    replace hyS := hyS.next b4
    replace hB1 := hB1.next b4
    replace hB2 := hB2.next b4
    obtain ⟨u2, hu2⟩ : ∃ u2, u2 = WM.dropW u (q : Nat) := ⟨_, rfl⟩
    rw [← hu2] at ht2 ⊢
    have hlt2 : w1.heap.size < w4.heap.size := hB2.lt
    have hput := rPut_calls (.slice (some ⟨bz, oz, none⟩) (bL V).length cy) i u2 w4 hyS hiB (by omega)
    simp -implicitDefEqProofs [go_sem, hB1.cell, rpC_5]
    refine callE_of hput ?_
    rintro v w5 ⟨g, c5, rfl, hg, hin5, b5⟩
    have bel5 := bel4.trans (b5.mono bel4.size)
    replace hB1 := hB1.next b5
    replace hB2 := hB2.next b5
    have hgl : g < w5.heap.size := by
      obtain ⟨b', o', e2, g2⟩ := hin5.at_.cell (i := i) (by rw [List.length_set]; assumption)
      cases e2
      exact World.block_lt_of_cell? w5 _ g2
    have hBs := hB1.set 5 (.slice (some ⟨g, 0, none⟩) (bL V).length c5)
    rw [rpC_set5] at hBs
    have hM5 : Mod (fun k => k = w0.heap.size) w5 (w5.setCell ⟨w0.heap.size, 5, none⟩ (.slice (some ⟨g, 0, none⟩) (bL V).length c5)) := (Mod.refl (fun k => k = w0.heap.size) w5).setCell (.inl rfl) _
    have hB2s := hB2.mod hM5 (fun e => by have e : w1.heap.size = w0.heap.size := e; omega)
    have hz1 := b4.size
    have hN5 : SlV w5 (.slice (some ⟨g, 0, none⟩) (bL V).length c5) ((bL V).set i u2) := ⟨_, _, by rw [List.length_set], hin5⟩
    have hNs := hN5.mod hM5 (fun b o n c e h => by cases e; have h : g = w0.heap.size := h; have := bel4.size; omega)
    have belS : Below w0.heap.size w0 (w5.setCell ⟨w0.heap.size, 5, none⟩ (.slice (some ⟨g, 0, none⟩) (bL V).length c5)) := bel5.setCell (Nat.le_refl _) _
    have hszS : (w5.setCell ⟨w0.heap.size, 5, none⟩ (.slice (some ⟨g, 0, none⟩) (bL V).length c5)).heap.size = w5.heap.size := by simp
    have hf4 := hB1.thaw 5
    have hxS := hx0.next belS
    obtain ⟨ax, cx, rfl, hxin⟩ := hx
    obtain ⟨bt, ot, rfl, gt⟩ := (show SlIn .u64 _ ax V.T cx from hxin).at_.cell hiT
    have hxS2 := hxS
    obtain ⟨ax2, cx2, hxe, hxin2⟩ := hxS2
    simp only [Value.slice.injEq] at hxe
    obtain ⟨rfl, -, rfl⟩ := hxe
    obtain ⟨t, ht⟩ : ∃ t, t = V.T.getD i 0#64 := ⟨_, rfl⟩
    have hti : V.T[i] = t := by rw [ht]; simp [List.getD, hiT]
    obtain ⟨bt', ot', hte, gt2⟩ := hxin2.at_.cell hiT
    cases hte
    rw [hti] at gt2
    rw [← ht] at ht3
    have hiT' : (i : Int) < V.T.length := by omega
    simp -implicitDefEqProofs [go_sem, hB1.cell, rpC_5, hf4]
    generalize World.setCell w5 _ _ = w6 at *
    simp -implicitDefEqProofs [go_sem, hBs.cell, rpC_4, hiT, hiT', gt2]
    refine callE_of (refDrop_calls t (q : Nat) w6) ?_
    rintro v w7 ⟨rfl, b7⟩
    have bel7 := belS.trans (b7.mono belS.size)
    replace hBs := hBs.next b7
    replace hB2s := hB2s.next b7
    replace hNs := hNs.next b7
    have hx7 := hxS.next b7
    obtain ⟨u3, hu3⟩ : ∃ u3, u3 = WM.dropW t (q : Nat) := ⟨_, rfl⟩
    rw [← hu3] at ht3 ⊢
    have hz7 := b7.size
    have hz5 := b5.size
    cases his : WM.hasM t (q : Nat) with
    | false =>
      rw [his, if_neg (by decide)] at ht3
      have hld2 := ldAll (P := Tryz.prog) hBs hst rfl rpI rfl
      have hsA := stAll (P := Tryz.prog) (cs := rpC (shN m) (.slice (some ⟨bt, ot, none⟩) V.T.length cx) (.slice (some ⟨g, 0, none⟩) (bL V).length c5)) hB2s rpI rfl (rpC_one (shN m) hx7 hNs)
      simp -implicitDefEqProofs [go_sem, ↓hld2, ↓hsA]
      refine bodyCell 4 5 rfl (by simp -implicitDefEqProofs [go_sem]) (hB2s.row _) hst rfl rpI ?_
      simp -implicitDefEqProofs [go_sem]
      have belF := fun C => Below.row (g := w1.heap.size) bel7 (by omega) C
      have hN := fun C => hNs.mod ((Mod.refl (fun k => k = w1.heap.size) _).row (.inl rfl) C) (fun b o n c e h => by cases e; have h : g = w1.heap.size := h; omega)
      rw [ht1, ht2, ht3]
      exact ⟨_, _, ⟨rfl, rfl⟩, hx0.next (belF _), hN _, belF _, .inl rfl, .inr ⟨g, 0, _, _, rfl, by have := bel4.size; omega⟩⟩
    | true =>
      rw [his, if_pos rfl] at ht3
      have hput2 := rPut_calls (.slice (some ⟨bt, ot, none⟩) V.T.length cx) i u3 w7 hx7 hiT (by omega)
      simp -implicitDefEqProofs [go_sem, hBs.cell, rpC_4]
      refine callE_of hput2 ?_
      rintro v w8 ⟨g2, c8, rfl, hg2, hin8, b8⟩
      have bel8 := bel7.trans (b8.mono bel7.size)
      replace hBs := hBs.next b8
      replace hB2s := hB2s.next b8
      replace hNs := hNs.next b8
      have hBt := hBs.set 4 (.slice (some ⟨g2, 0, none⟩) V.T.length c8)
      rw [rpC_set4] at hBt
      have hM8 : Mod (fun k => k = w0.heap.size) w8 (w8.setCell ⟨w0.heap.size, 4, none⟩ (.slice (some ⟨g2, 0, none⟩) V.T.length c8)) := (Mod.refl (fun k => k = w0.heap.size) w8).setCell (.inl rfl) _
      have hB2t := hB2s.mod hM8 (fun e => by have e : w1.heap.size = w0.heap.size := e; omega)
      have hN8 : SlV w8 (.slice (some ⟨g2, 0, none⟩) V.T.length c8) (V.T.set i u3) := ⟨_, _, by rw [List.length_set], hin8⟩
      have hNt := hN8.mod hM8 (fun b o n c e h => by cases e; have h : g2 = w0.heap.size := h; have := bel4.size; omega)
      have hNu := hNs.mod hM8 (fun b o n c e h => by cases e; have h : g = w0.heap.size := h; have := bel4.size; omega)
      have belT : Below w0.heap.size w0 (w8.setCell ⟨w0.heap.size, 4, none⟩ (.slice (some ⟨g2, 0, none⟩) V.T.length c8)) := bel8.setCell (Nat.le_refl _) _
      have hf8 := hBs.thaw 4
      have hld2 := ldAll (P := Tryz.prog) hBt hst rfl rpI rfl
      have hsA := stAll (P := Tryz.prog) (cs := rpC (shN m) (.slice (some ⟨g2, 0, none⟩) V.T.length c8) (.slice (some ⟨g, 0, none⟩) (bL V).length c5)) hB2t rpI rfl (rpC_one (shN m) hNt hNu)
      simp -implicitDefEqProofs [go_sem, hBs.cell, rpC_4, hf8, ↓hld2, ↓hsA]
      refine bodyCell 4 5 rfl (by simp -implicitDefEqProofs [go_sem]) (hB2t.row _) hst rfl rpI ?_
      simp -implicitDefEqProofs [go_sem]
      have belF := fun C => Below.row (g := w1.heap.size) belT (by omega) C
      have hN := fun C => hNu.mod ((Mod.refl (fun k => k = w1.heap.size) _).row (.inl rfl) C) (fun b o n c e h => by cases e; have h : g = w1.heap.size := h; omega)
      have hNN := fun C => hNt.mod ((Mod.refl (fun k => k = w1.heap.size) _).row (.inl rfl) C) (fun b o n c e h => by cases e; have h : g2 = w1.heap.size := h; omega)
      rw [ht1, ht2, ht3]
      exact ⟨_, _, ⟨rfl, rfl⟩, hNN _, hN _, belF _, .inr ⟨g2, 0, _, _, rfl, by have := bel7.size; omega⟩, .inr ⟨g, 0, _, _, rfl, by have := bel4.size; omega⟩⟩
  · rw [drpV_none hw hm hn1]
    have hsA := stAll (P := Tryz.prog) (cs := rpC (shN m) x y) hB2 rpI rfl (rpC_one (shN m) hx hy)
    simp -implicitDefEqProofs [go_sem, ↓hld _ hB1, ↓hsA]
    refine bodyCell 4 5 rfl (by simp -implicitDefEqProofs [go_sem]) (hB2.row _) hst rfl rpI ?_
    simp -implicitDefEqProofs [go_sem]
    exact ⟨x, y, rfl, hx0.next (Below.row bel3 (by omega) _), hy0.next (Below.row bel3 (by omega) _), Below.row bel3 (by omega) _, .inl rfl, .inl rfl⟩
end
end Go.Proofs.YtcpackbljaabnaaGreatDoor

/-! ### RPool5 -/
namespace Go.Proofs.YtcpackbljaabnaaGreatDoor
set_option linter.unusedVariables false
set_option linter.unusedSimpArgs false
set_option maxRecDepth 100000
open Go Go.RowKit

theorem find_range {p : Nat → Bool} {i : Nat} (hp : p i = true) (hj : ∀ j, j < i → p j = false) : ∀ {n : Nat}, i < n → (List.range n).find? p = some i
  | 0, h => by omega
  | n + 1, h => by
    rw [List.range_succ, List.find?_append]
    by_cases e : i < n
    · rw [find_range hp hj e]; rfl
    · have e2 : i = n := by omega
      subst e2
      have : (List.range i).find? p = none := List.find?_eq_none.2 (fun j hjm => by rw [hj j (List.mem_range.1 hjm)]; decide)
      rw [this]
      simp [hp]
/-- A slab with blocks that has room for the class. -/
def roomB (l : List (BitVec 64)) (c : Int) (i : Nat) : Bool := (l.getD i 0#64 != 0#64) && decide (0 ≤ WM.nextM (l.getD i 0#64) c)
def NoRoom (l : List (BitVec 64)) (c : Int) (n : Nat) : Prop := ∀ j, j < n → roomB l c j = false
def NoZero (l : List (BitVec 64)) (n : Nat) : Prop := ∀ j, j < n → (l.getD j 0#64 == 0#64) = false
def AtP (l : List (BitVec 64)) (m k : Nat) (z : Int) : Prop := (z = -1 ∧ NoZero l k) ∨ ∃ i : Nat, i < m ∧ z = (i : Int) ∧ (l.getD i 0#64 == 0#64) = true ∧ NoZero l i
theorem pick_a {l : List (BitVec 64)} {c : Int} {i : Nat} (hi : i < l.length) (h : roomB l c i = true) (hn : NoRoom l c i) : rPick l c = some i := by
  unfold rPick
  have := find_range (p := roomB l c) h hn hi
  unfold roomB at this
  rw [this]
theorem pick_b {l : List (BitVec 64)} {c : Int} {i : Nat} (hi : i < l.length) (hn : NoRoom l c l.length) (h : (l.getD i 0#64 == 0#64) = true) (hz : NoZero l i) : rPick l c = some i := by
  unfold rPick
  have h1 : (List.range l.length).find? (fun i => (l.getD i 0#64 != 0#64) && decide (0 ≤ WM.nextM (l.getD i 0#64) c)) = none := List.find?_eq_none.2 (fun j hj => by
    have := hn j (List.mem_range.1 hj)
    unfold roomB at this
    rw [this]; decide)
  rw [h1]
  exact find_range (p := fun i => l.getD i 0#64 == 0#64) h hz hi
theorem pick_n {l : List (BitVec 64)} {c : Int} (hn : NoRoom l c l.length) (hz : NoZero l l.length) : rPick l c = none := by
  unfold rPick
  have h1 : (List.range l.length).find? (fun i => (l.getD i 0#64 != 0#64) && decide (0 ≤ WM.nextM (l.getD i 0#64) c)) = none := List.find?_eq_none.2 (fun j hj => by
    have := hn j (List.mem_range.1 hj)
    unfold roomB at this
    rw [this]; decide)
  rw [h1]
  exact List.find?_eq_none.2 (fun j hj => by rw [hz j (List.mem_range.1 hj)]; decide)
theorem bodyCell3 {P : Program} {w : World} {fn : Func} {R : Value → World → Prop} {e : Env} (p u z : Tmp) {ty t' : TypeId} {g : Nat} {cs : Array Value} {d : TypeDesc} {t : Tag (bodyR P fn R, Exit.ret)} (h : fn.results = #[.cell p ty, .tmp u, .tmp z]) (hp : e p = .pointer (some ⟨g, 0, none⟩)) (hB : Blk w g cs t')
    (hu : P.underlying ty = some d) (hd : isAggD d = true) (hi : (P.info? ty).map (·.size) = some cs.size) (hR : R (.tuple #[.agg cs, e u, e z]) w) : goE (bodyR P fn R) .ret t e w := by
  intro tmps ht
  refine ⟨_, ?_, hR⟩
  have h1 : (results fn tmps).run P w = ((asAddr (tmps.getD p undef)).run P w).andThen fun a w₁ => ((loadVar ty a).run P w₁).andThen fun v w₂ => .ok (.tuple #[v, tmps.getD u undef, tmps.getD z undef]) w₂ := by
    simp only [results, h]
    simp [Sem.run_bind, Result.andThen]
  rw [h1, ht, ht, ht, hp]
  show ((loadVar ty ⟨g, 0, none⟩).run P w).andThen _ = _
  rw [run_loadVar_row w g t' ty cs (0, 0) d hB hu (by cases d <;> simp_all [isAggD]) hi]
  rfl
section
variable {m : Nat} {V : PV}
set_option maxHeartbeats 1000000
theorem rReserve_calls (hw : Well m V) (hm : 1 ≤ m ∧ m ≤ 4) {c : Nat} (hc : c = 1 ∨ c = 2) (x y : Value) (w0 : World) (hx : SlV w0 x V.T) (hy : SlV w0 y (bL V)) :
    Ret Tryz.prog 10 #[.agg (rpC (shN m) x y), .int .i64 (c : Int)] w0 fun v w' => ∃ x' y', v = .tuple #[.agg (rpC (shN m) x' y'), .int .i64 (reserveV (shN m) V c).2.1, .int .i64 (reserveV (shN m) V c).2.2] ∧ SlV w' x' (reserveV (shN m) V c).1.T ∧ SlV w' y' (bL (reserveV (shN m) V c).1) ∧ Below w0.heap.size w0 w' ∧ FreshOr w0 x x' ∧ FreshOr w0 y y' := by
  have bel0 := Below.refl w0.heap.size w0
  have hdat := dat_ok m
  have hTl : V.T.length ≤ 64 := by rw [hw.len]; omega
  have hBn : (bL V).length = m := by rw [bL_len, hw.len]
  have hst : Tryz.prog.underlying 35 = _ := Tryz.underlying35
  have hx0 := hx
  have hy0 := hy
  have hbl : (WM.blocksI (c : Int) == 0) = false := by rcases hc with rfl | rfl <;> decide
  refine ret_of (args := [_, _]) _ Tryz.func10 rfl Tryz.ntmps10 (by simp) ?_
  simp -implicitDefEqProofs [go_sem]
  generalize hw1 : World.alloc w0 _ = w1 at *
  obtain ⟨hB1, b1, sz1⟩ := new_facts hw1
  have bel1 := bel0.trans (b1.mono bel0.size)
  replace hx := hx.next b1
  replace hy := hy.next b1
  rw [← sz1]
  generalize hw2 : World.alloc w1 _ = w2 at *
  obtain ⟨hB2, b2, sz2⟩ := new_facts hw2
  have bel2 := bel1.trans (b2.mono bel1.size)
  replace hx := hx.next b2
  replace hy := hy.next b2
  replace hB1 := hB1.next b2
  refine callE_of (refBlocks_calls (c : Int) w2) ?_
  rintro v w3 ⟨rfl, rfl⟩
  have hlt2 : w1.heap.size < w3.heap.size := hB2.lt
  obtain ⟨ay, cy, rfl, hyin⟩ := hy
  obtain ⟨bz, oz, rfl, -⟩ := hyin.at_.cell (i := 0) (by omega)
  have hcell : ∀ w', Below w3.heap.size w3 w' → ∀ j, j < m → w'.cell? ⟨bz, oz + j, none⟩ = some (.int .u64 (uv ((bL V).getD j 0#64))) := fun w' h j hj => by
    have hjB : j < (bL V).length := by omega
    obtain ⟨b, o, e, g⟩ := (hyin.next h).at_.cell hjB
    cases e
    rw [g]; simp [List.getD, hjB]
  simp -implicitDefEqProofs [go_sem, hbl]
  refine wpE_loop (fun e' w' => ∃ i : Nat, i ≤ m ∧ e' 1 = .int .i64 (c : Int) ∧ e' 2 = .pointer (some ⟨w0.heap.size, 0, none⟩) ∧ e' 4 = .pointer (some ⟨w1.heap.size, 0, none⟩) ∧ e' 7 = .int .i64 (-1) ∧ e' 8 = .int .i64 (i : Int) ∧ Below w3.heap.size w3 w' ∧ NoRoom (bL V) c i) (fun e' _ => m - (intOf (e' 8)).toNat) ?_ ?_
  · refine ⟨0, by omega, ?_⟩
    simp -implicitDefEqProofs [go_sem]
    exact ⟨Below.refl _ _, fun j hj => by omega⟩
  · rintro e' w4 ⟨i, hi, g1, g2, g4, g7, g8, belB, hno⟩
    have hB4 := hB1.next belB
    have hC4 := hB2.next belB
    by_cases hil : i < m
    · have hil' : (i : Int) < (bL V).length := by omega
      have hilB : i < (bL V).length := by omega
      have k1 := IntWalk.i64_in ((i : Int) + 1) (by omega)
      have gz := hcell w4 belB i hil
      obtain ⟨u, hu⟩ : ∃ u, u = (bL V).getD i 0#64 := ⟨_, rfl⟩
      rw [← hu] at gz
      cases hz : (u != 0#64) with
      | false =>
        simp -implicitDefEqProofs [go_sem, g1, g2, g4, g7, g8, hB4.cell, rpC_5, hilB, hil', gz, hz, k1]
        refine goE_round ⟨i + 1, by omega, ?_⟩ ?_
        · simp -implicitDefEqProofs [go_sem, g1, g2, g4, g7]
          refine ⟨belB, fun j hj => ?_⟩
          by_cases e : j = i
          · subst e; unfold roomB; rw [← hu, hz]; rfl
          · exact hno j (by omega)
        · simp -implicitDefEqProofs [go_sem, intOf, g8, k1]; omega
      | true =>
        simp -implicitDefEqProofs [go_sem, g1, g2, g4, g7, g8, hB4.cell, rpC_5, hilB, hil', gz, hz]
        refine callE_of (refNext_calls u (c : Int) w4) ?_
        rintro v w5 ⟨rfl, b5⟩
        have belB5 := belB.trans (b5.mono belB.size)
        by_cases hge : 0 ≤ WM.nextM u (c : Int)
        · have hpick : rPick (bL V) (c : Int) = some i := pick_a hilB (by unfold roomB; rw [← hu, hz, decide_eq_true hge]; rfl) hno
          have hB5 := hB1.next belB5
          have n0 : ¬ (i : Int) < 0 := by omega
          have hm0 : 0 < (bL V).length := by omega
          have hm0' : (0 : Int) < (bL V).length := by omega
          simp -implicitDefEqProofs [go_sem, g1, g2, g4, g7, g8, hge]
          refine wpE_rounds 1 ?_
          simp -implicitDefEqProofs [go_sem, g1, g2, g4, g7, g8, hB5.cell, rpC_5, hm0, hm0', n0]
          have hB9 := hB1.next belB5
          have hC9 := hB2.next belB5
          obtain ⟨q, hi9, hq, hnx, ht1, ht2, ht3⟩ : ∃ q : Nat, i < m ∧ q < 16 ∧ WM.nextM (bF V.T V.H i) c = (q : Int) ∧ (reserveV (shN m) V c).2 = (placeI (shN m) i c q, 0) ∧ (reserveV (shN m) V c).1.T = V.T ∧ bL (reserveV (shN m) V c).1 = (bL V).set i (WM.takeW (bF V.T V.H i) c q) := by
            rcases resV_pick (s := shN m) hw hc with ⟨h, _⟩ | ⟨i', q, h1, h2⟩
            · rw [hpick] at h; cases h
            · rw [hpick] at h1
              cases h1
              exact ⟨q, h2⟩
          have hiB : i < (bL V).length := by omega
          have hiT : i < V.T.length := by rw [hw.len]; exact hi9
          have hui : (bL V).getD i 0#64 = bF V.T V.H i := bL_get V hiT
          have gz9 := hcell _ belB5 i hi9
          rw [hui] at gz9
          obtain ⟨t, ht⟩ : ∃ t, t = bF V.T V.H i := ⟨_, rfl⟩
          rw [← ht] at gz9 hnx ht3
          have n1 : ¬ (i : Int) < 0 := by omega
          have hiB' : (i : Int) < (bL V).length := by omega
          simp -implicitDefEqProofs [go_sem, g1, g2, g4, g7, g8, n1, hB9.cell, rpC_5, hiB, hiB', gz9]
          refine callE_of (refNext_calls t (c : Int) w5) ?_
          rw [hnx]
          rintro v w10 ⟨rfl, b10⟩
          have bel10 := belB5.trans (b10.mono belB5.size)
          have hB10 := hB1.next bel10
          have gz10 := hcell _ bel10 i hi9
          rw [hui, ← ht] at gz10
          simp -implicitDefEqProofs [go_sem, g1, g2, g4, g7, g8, hB10.cell, rpC_5, hiB, hiB', gz10]
          refine callE_of (refTake_calls t (c : Int) (q : Int) w10) ?_
          rintro v w11 ⟨rfl, b11⟩
          have bel11 := bel10.trans (b11.mono bel10.size)
          have hB11 := hB1.next bel11
          have hC11 := hB2.next bel11
          obtain ⟨u2, hu2⟩ : ∃ u2, u2 = WM.takeW t (c : Int) (q : Int) := ⟨_, rfl⟩
          rw [← hu2] at ht3 ⊢
          have hyS : SlV w11 (.slice (some ⟨bz, oz, none⟩) (bL V).length cy) (bL V) := ⟨_, _, rfl, hyin.next bel11⟩
          have hput := rPut_calls (.slice (some ⟨bz, oz, none⟩) (bL V).length cy) i u2 w11 hyS hiB (by omega)
          simp -implicitDefEqProofs [go_sem, g1, g2, g4, g7, g8, hB11.cell, rpC_5]
          refine callE_of hput ?_
          rintro v w12 ⟨g, c12, rfl, hg, hin12, b12⟩
          have bel12 := bel11.trans (b12.mono bel11.size)
          have hB12 := hB1.next bel12
          have hC12 := hB2.next bel12
          have hgl : g < w12.heap.size := by
            obtain ⟨b', o', e2, g2⟩ := hin12.at_.cell (i := i) (by rw [List.length_set]; exact hiB)
            cases e2
            exact World.block_lt_of_cell? w12 _ g2
          have hBs := hB12.set 5 (.slice (some ⟨g, 0, none⟩) (bL V).length c12)
          rw [rpC_set5] at hBs
          have hM12 : Mod (fun k => k = w0.heap.size) w12 (w12.setCell ⟨w0.heap.size, 5, none⟩ (.slice (some ⟨g, 0, none⟩) (bL V).length c12)) := (Mod.refl (fun k => k = w0.heap.size) w12).setCell (.inl rfl) _
          have hz2 := bel11.size
          have hCs := hC12.mod hM12 (fun e => by have e : w1.heap.size = w0.heap.size := e; omega)
          have hN12 : SlV w12 (.slice (some ⟨g, 0, none⟩) (bL V).length c12) ((bL V).set i u2) := ⟨_, _, by rw [List.length_set], hin12⟩
          have hNs := hN12.mod hM12 (fun b o n c e h => by cases e; have h : g = w0.heap.size := h; omega)
          have belS : Below w0.heap.size w0 (w12.setCell ⟨w0.heap.size, 5, none⟩ (.slice (some ⟨g, 0, none⟩) (bL V).length c12)) := (bel2.trans (bel12.mono bel2.size)).setCell (Nat.le_refl _) _
          have hf12 := hB12.thaw 5
          simp -implicitDefEqProofs [go_sem, g1, g2, g4, g7, g8, hB12.cell, rpC_5, hf12]
          have hgS : g < (w12.setCell ⟨w0.heap.size, 5, none⟩ (.slice (some ⟨g, 0, none⟩) (bL V).length c12)).heap.size := by simpa using hgl
          have hltS : w1.heap.size < (w12.setCell ⟨w0.heap.size, 5, none⟩ (.slice (some ⟨g, 0, none⟩) (bL V).length c12)).heap.size := hCs.lt
          generalize World.setCell w12 _ _ = w13 at *
          refine drawE_mix [.pure 2, .pure 3, .pure 4, .take 0, .run 1 [0], .run 5 [0], .run 6 [], .pure 7, .pure 8] mixed (by decide +kernel) (by simp only [withOps, MStep.num, List.filterMap_cons, List.filterMap_nil, List.getElem?_cons_succ, List.getElem?_cons_zero, Option.map_some]; rfl) ?_
          have hBs := hBs.next (Below.refl _ _).drew
          have hCs := hCs.next (Below.refl _ _).drew
          have hNs := hNs.next (Below.refl _ _).drew
          have belS := belS.drew
          have hx13 := hx0.next belS
          generalize World.drew w13 = w14 at *
          have hldS := fun (w : World) (h : Below w14.heap.size w14 w) => ldAll (P := Tryz.prog) (hBs.next h) hst rfl rpI rfl
          simp -implicitDefEqProofs [go_sem, g1, g2, g4, g7, g8]
          refine onTake_of (fun w' => Below w14.heap.size w14 w') (.agg (rpC (shN m) x (.slice (some ⟨g, 0, none⟩) (bL V).length c12))) (Below.refl _ _) (fun w' hw => by simp -implicitDefEqProofs [go_sem, g1, g2, g4, g7, g8, (hBs.next hw).cell, rpC_0, rpC_1, rpC_2, rpC_3, rpC_4, rpC_5]; rfl) ?_
          simp -implicitDefEqProofs [go_sem, g1, g2, g4, g7, g8, hBs.cell, rpC_0, rpC_1, rpC_2, rpC_3, rpC_4, rpC_5]
          have hpl := rPlace_calls (shN m) x (.slice (some ⟨g, 0, none⟩) (bL V).length c12) i (c : Int) q w14 hx13 hNs hdat (by omega) (by omega)
          refine callE_of hpl ?_
          rintro v w15 ⟨rfl, b15⟩
          refine ⟨.inr (by simp -implicitDefEqProofs [go_sem] <;> exact b15), ?_⟩
          have hCt := hCs.next b15
          have hNt := hNs.next b15
          have belT := belS.trans (b15.mono belS.size)
          have hx15 := hx13.next b15
          have hsA := stAll (P := Tryz.prog) (cs := rpC (shN m) x (.slice (some ⟨g, 0, none⟩) (bL V).length c12)) hCt rpI rfl (rpC_one (shN m) hx15 hNt)
          simp -implicitDefEqProofs [go_sem, g1, g2, g4, g7, g8, ↓hsA]
          refine bodyCell3 4 5 6 rfl (by simp -implicitDefEqProofs [go_sem, g1, g2, g4, g7, g8]) (hCt.row _) hst rfl rpI ?_
          simp -implicitDefEqProofs [go_sem, g1, g2, g4, g7, g8]
          have belF := fun C => Below.row (g := w1.heap.size) belT (by omega) C
          have hN := fun C => hNt.mod ((Mod.refl (fun k => k = w1.heap.size) _).row (.inl rfl) C) (fun b o n c e h => by cases e; have h : g = w1.heap.size := h; omega)
          rw [ht1, ht2, ht3]
          exact ⟨x, _, ⟨rfl, rfl, rfl⟩, hx0.next (belF _), hN _, belF _, .inl rfl, .inr ⟨g, 0, _, _, rfl, by have := bel2.size; have := bel11.size; omega⟩⟩
        · simp -implicitDefEqProofs [go_sem, g1, g2, g4, g7, g8, hge, k1]
          refine goE_round ⟨i + 1, by omega, ?_⟩ ?_
          · simp -implicitDefEqProofs [go_sem, g1, g2, g4, g7]
            refine ⟨belB5, fun j hj => ?_⟩
            by_cases e : j = i
            · subst e; unfold roomB; rw [← hu, decide_eq_false hge, Bool.and_false]
            · exact hno j (by omega)
          · simp -implicitDefEqProofs [go_sem, intOf, g8, k1]; omega
    · have hi' : i = m := by omega
      have hmB : ((bL V).length : Int) = (m : Int) := by omega
      rw [hi'] at hno
      rw [← hBn] at hno
      simp -implicitDefEqProofs [go_sem, g1, g2, g4, g7, g8, hB4.cell, rpC_5, hi', hmB]
      refine wpE_loop (fun e3 w' => ∃ (k : Nat) (z : Int), k ≤ m ∧ e3 1 = .int .i64 (c : Int) ∧ e3 2 = .pointer (some ⟨w0.heap.size, 0, none⟩) ∧ e3 4 = .pointer (some ⟨w1.heap.size, 0, none⟩) ∧ e3 7 = .int .i64 z ∧ e3 9 = .int .i64 (k : Int) ∧ Below w3.heap.size w3 w' ∧ AtP (bL V) m k z) (fun e3 _ => m - (intOf (e3 9)).toNat) ?_ ?_
      · refine ⟨0, -1, by omega, ?_⟩
        simp -implicitDefEqProofs [go_sem, g1, g2, g4, g7, g8]
        exact ⟨belB, .inl ⟨rfl, fun j hj => by omega⟩⟩
      · rintro e3 w6 ⟨k, z, hk, p1, p2, p4, p7, p9, belB6, hat⟩
        have hB6 := hB1.next belB6
        have hC6 := hB2.next belB6
        rcases hat with ⟨rfl, hz⟩ | ⟨i, hi, rfl, hzi, hz⟩
        · by_cases hkm : k < m
          · have hkB : k < (bL V).length := by omega
            have hkB' : (k : Int) < (bL V).length := by omega
            have k1 := IntWalk.i64_in ((k : Int) + 1) (by omega)
            have gz := hcell w6 belB6 k hkm
            obtain ⟨u, hu⟩ : ∃ u, u = (bL V).getD k 0#64 := ⟨_, rfl⟩
            rw [← hu] at gz
            cases hzu : (u == 0#64) with
            | true =>
              simp -implicitDefEqProofs [go_sem, p1, p2, p4, p7, p9, hB6.cell, rpC_5, hkB, hkB', gz, hzu, k1]
              refine goE_round ⟨k + 1, (k : Int), by omega, ?_⟩ ?_
              · simp -implicitDefEqProofs [go_sem, p1, p2, p4]
                exact ⟨belB6, .inr ⟨k, hkm, rfl, by rw [← hu]; exact hzu, hz⟩⟩
              · simp -implicitDefEqProofs [go_sem, intOf, p9, k1]; omega
            | false =>
              simp -implicitDefEqProofs [go_sem, p1, p2, p4, p7, p9, hB6.cell, rpC_5, hkB, hkB', gz, hzu, k1]
              refine goE_round ⟨k + 1, -1, by omega, ?_⟩ ?_
              · simp -implicitDefEqProofs [go_sem, p1, p2, p4, p7]
                refine ⟨belB6, .inl ⟨rfl, fun j hj => ?_⟩⟩
                by_cases e : j = k
                · subst e; rw [← hu]; exact hzu
                · exact hz j (by omega)
              · simp -implicitDefEqProofs [go_sem, intOf, p9, k1]; omega
          · have hk2 : k = m := by omega
            have hpick : rPick (bL V) (c : Int) = none := pick_n hno (by rw [hBn, ← hk2]; exact hz)
            have hres : reserveV (shN m) V c = (V, 0, 6) := by
              rcases resV_pick (s := shN m) hw hc with ⟨_, h⟩ | ⟨i', q, h1, _⟩
              · exact h
              · rw [hpick] at h1; cases h1
            rw [hres]
            have bel6 := bel2.trans (belB6.mono bel2.size)
            have hld := ldAll (P := Tryz.prog) hB6 hst rfl rpI rfl
            have hsA := stAll (P := Tryz.prog) (cs := rpC (shN m) x (.slice (some ⟨bz, oz, none⟩) (bL V).length cy)) hC6 rpI rfl (rpC_one (shN m) (hx0.next bel6) (hy0.next bel6))
            simp -implicitDefEqProofs [go_sem, p1, p2, p4, p7, p9, hB6.cell, rpC_5, hk2, hmB, ↓hld, ↓hsA]
            refine bodyCell3 4 5 6 rfl (by simp -implicitDefEqProofs [go_sem, p1, p2, p4]) (hC6.row _) hst rfl rpI ?_
            simp -implicitDefEqProofs [go_sem, p1, p2, p4]
            exact ⟨x, _, rfl, hx0.next (Below.row bel6 (by omega) _), hy0.next (Below.row bel6 (by omega) _), Below.row bel6 (by omega) _, .inl rfl, .inl rfl⟩
        · have hpick : rPick (bL V) (c : Int) = some i := pick_b (by omega) hno hzi hz
          have n0 : ¬ (i : Int) < 0 := by omega
          by_cases hkm : k < m
          · have hkB : k < (bL V).length := by omega
            have hkB' : (k : Int) < (bL V).length := by omega
            simp -implicitDefEqProofs [go_sem, p1, p2, p4, p7, p9, hB6.cell, rpC_5, hkB, hkB', n0]
            have hB9 := hB1.next belB6
            have hC9 := hB2.next belB6
            obtain ⟨q, hi9, hq, hnx, ht1, ht2, ht3⟩ : ∃ q : Nat, i < m ∧ q < 16 ∧ WM.nextM (bF V.T V.H i) c = (q : Int) ∧ (reserveV (shN m) V c).2 = (placeI (shN m) i c q, 0) ∧ (reserveV (shN m) V c).1.T = V.T ∧ bL (reserveV (shN m) V c).1 = (bL V).set i (WM.takeW (bF V.T V.H i) c q) := by
              rcases resV_pick (s := shN m) hw hc with ⟨h, _⟩ | ⟨i', q, h1, h2⟩
              · rw [hpick] at h; cases h
              · rw [hpick] at h1
                cases h1
                exact ⟨q, h2⟩
            have hiB : i < (bL V).length := by omega
            have hiT : i < V.T.length := by rw [hw.len]; exact hi9
            have hui : (bL V).getD i 0#64 = bF V.T V.H i := bL_get V hiT
            have gz9 := hcell _ belB6 i hi9
            rw [hui] at gz9
            obtain ⟨t, ht⟩ : ∃ t, t = bF V.T V.H i := ⟨_, rfl⟩
            rw [← ht] at gz9 hnx ht3
            have n1 : ¬ (i : Int) < 0 := by omega
            have hiB' : (i : Int) < (bL V).length := by omega
            simp -implicitDefEqProofs [go_sem, p1, p2, p4, p7, p9, n1, hB9.cell, rpC_5, hiB, hiB', hi9, gz9]
            refine callE_of (refNext_calls t (c : Int) w6) ?_
            rw [hnx]
            rintro v w10 ⟨rfl, b10⟩
            have bel10 := belB6.trans (b10.mono belB6.size)
            have hB10 := hB1.next bel10
            have gz10 := hcell _ bel10 i hi9
            rw [hui, ← ht] at gz10
            simp -implicitDefEqProofs [go_sem, p1, p2, p4, p7, p9, hB10.cell, rpC_5, hiB, hiB', gz10]
            refine callE_of (refTake_calls t (c : Int) (q : Int) w10) ?_
            rintro v w11 ⟨rfl, b11⟩
            have bel11 := bel10.trans (b11.mono bel10.size)
            have hB11 := hB1.next bel11
            have hC11 := hB2.next bel11
            obtain ⟨u2, hu2⟩ : ∃ u2, u2 = WM.takeW t (c : Int) (q : Int) := ⟨_, rfl⟩
            rw [← hu2] at ht3 ⊢
            have hyS : SlV w11 (.slice (some ⟨bz, oz, none⟩) (bL V).length cy) (bL V) := ⟨_, _, rfl, hyin.next bel11⟩
            have hput := rPut_calls (.slice (some ⟨bz, oz, none⟩) (bL V).length cy) i u2 w11 hyS hiB (by omega)
            simp -implicitDefEqProofs [go_sem, p1, p2, p4, p7, p9, hB11.cell, rpC_5]
            refine callE_of hput ?_
            rintro v w12 ⟨g, c12, rfl, hg, hin12, b12⟩
            have bel12 := bel11.trans (b12.mono bel11.size)
            have hB12 := hB1.next bel12
            have hC12 := hB2.next bel12
            have hgl : g < w12.heap.size := by
              obtain ⟨b', o', e2, g2⟩ := hin12.at_.cell (i := i) (by rw [List.length_set]; exact hiB)
              cases e2
              exact World.block_lt_of_cell? w12 _ g2
            have hBs := hB12.set 5 (.slice (some ⟨g, 0, none⟩) (bL V).length c12)
            rw [rpC_set5] at hBs
            have hM12 : Mod (fun k => k = w0.heap.size) w12 (w12.setCell ⟨w0.heap.size, 5, none⟩ (.slice (some ⟨g, 0, none⟩) (bL V).length c12)) := (Mod.refl (fun k => k = w0.heap.size) w12).setCell (.inl rfl) _
            have hz2 := bel11.size
            have hCs := hC12.mod hM12 (fun e => by have e : w1.heap.size = w0.heap.size := e; omega)
            have hN12 : SlV w12 (.slice (some ⟨g, 0, none⟩) (bL V).length c12) ((bL V).set i u2) := ⟨_, _, by rw [List.length_set], hin12⟩
            have hNs := hN12.mod hM12 (fun b o n c e h => by cases e; have h : g = w0.heap.size := h; omega)
            have belS : Below w0.heap.size w0 (w12.setCell ⟨w0.heap.size, 5, none⟩ (.slice (some ⟨g, 0, none⟩) (bL V).length c12)) := (bel2.trans (bel12.mono bel2.size)).setCell (Nat.le_refl _) _
            have hf12 := hB12.thaw 5
            simp -implicitDefEqProofs [go_sem, p1, p2, p4, p7, p9, hB12.cell, rpC_5, hf12]
            have hgS : g < (w12.setCell ⟨w0.heap.size, 5, none⟩ (.slice (some ⟨g, 0, none⟩) (bL V).length c12)).heap.size := by simpa using hgl
            have hltS : w1.heap.size < (w12.setCell ⟨w0.heap.size, 5, none⟩ (.slice (some ⟨g, 0, none⟩) (bL V).length c12)).heap.size := hCs.lt
            generalize World.setCell w12 _ _ = w13 at *
            refine drawE_mix [.pure 2, .pure 3, .pure 4, .take 0, .run 1 [0], .run 5 [0], .run 6 [], .pure 7, .pure 8] mixed (by decide +kernel) (by simp only [withOps, MStep.num, List.filterMap_cons, List.filterMap_nil, List.getElem?_cons_succ, List.getElem?_cons_zero, Option.map_some]; rfl) ?_
            have hBs := hBs.next (Below.refl _ _).drew
            have hCs := hCs.next (Below.refl _ _).drew
            have hNs := hNs.next (Below.refl _ _).drew
            have belS := belS.drew
            have hx13 := hx0.next belS
            generalize World.drew w13 = w14 at *
            have hldS := fun (w : World) (h : Below w14.heap.size w14 w) => ldAll (P := Tryz.prog) (hBs.next h) hst rfl rpI rfl
            simp -implicitDefEqProofs [go_sem, p1, p2, p4, p7, p9]
            refine onTake_of (fun w' => Below w14.heap.size w14 w') (.agg (rpC (shN m) x (.slice (some ⟨g, 0, none⟩) (bL V).length c12))) (Below.refl _ _) (fun w' hw => by simp -implicitDefEqProofs [go_sem, p1, p2, p4, p7, p9, (hBs.next hw).cell, rpC_0, rpC_1, rpC_2, rpC_3, rpC_4, rpC_5]; rfl) ?_
            simp -implicitDefEqProofs [go_sem, p1, p2, p4, p7, p9, hBs.cell, rpC_0, rpC_1, rpC_2, rpC_3, rpC_4, rpC_5]
            have hpl := rPlace_calls (shN m) x (.slice (some ⟨g, 0, none⟩) (bL V).length c12) i (c : Int) q w14 hx13 hNs hdat (by omega) (by omega)
            refine callE_of hpl ?_
            rintro v w15 ⟨rfl, b15⟩
            refine ⟨.inr (by simp -implicitDefEqProofs [go_sem] <;> exact b15), ?_⟩
            have hCt := hCs.next b15
            have hNt := hNs.next b15
            have belT := belS.trans (b15.mono belS.size)
            have hx15 := hx13.next b15
            have hsA := stAll (P := Tryz.prog) (cs := rpC (shN m) x (.slice (some ⟨g, 0, none⟩) (bL V).length c12)) hCt rpI rfl (rpC_one (shN m) hx15 hNt)
            simp -implicitDefEqProofs [go_sem, p1, p2, p4, p7, p9, ↓hsA]
            refine bodyCell3 4 5 6 rfl (by simp -implicitDefEqProofs [go_sem, p1, p2, p4, p7, p9]) (hCt.row _) hst rfl rpI ?_
            simp -implicitDefEqProofs [go_sem, p1, p2, p4, p7, p9]
            have belF := fun C => Below.row (g := w1.heap.size) belT (by omega) C
            have hN := fun C => hNt.mod ((Mod.refl (fun k => k = w1.heap.size) _).row (.inl rfl) C) (fun b o n c e h => by cases e; have h : g = w1.heap.size := h; omega)
            rw [ht1, ht2, ht3]
            exact ⟨x, _, ⟨rfl, rfl, rfl⟩, hx0.next (belF _), hN _, belF _, .inl rfl, .inr ⟨g, 0, _, _, rfl, by have := bel2.size; have := bel11.size; omega⟩⟩
          · have hk2 : k = m := by omega
            simp -implicitDefEqProofs [go_sem, p1, p2, p4, p7, p9, hB6.cell, rpC_5, hk2, hmB, n0]
            have hB9 := hB1.next belB6
            have hC9 := hB2.next belB6
            obtain ⟨q, hi9, hq, hnx, ht1, ht2, ht3⟩ : ∃ q : Nat, i < m ∧ q < 16 ∧ WM.nextM (bF V.T V.H i) c = (q : Int) ∧ (reserveV (shN m) V c).2 = (placeI (shN m) i c q, 0) ∧ (reserveV (shN m) V c).1.T = V.T ∧ bL (reserveV (shN m) V c).1 = (bL V).set i (WM.takeW (bF V.T V.H i) c q) := by
              rcases resV_pick (s := shN m) hw hc with ⟨h, _⟩ | ⟨i', q, h1, h2⟩
              · rw [hpick] at h; cases h
              · rw [hpick] at h1
                cases h1
                exact ⟨q, h2⟩
            have hiB : i < (bL V).length := by omega
            have hiT : i < V.T.length := by rw [hw.len]; exact hi9
            have hui : (bL V).getD i 0#64 = bF V.T V.H i := bL_get V hiT
            have gz9 := hcell _ belB6 i hi9
            rw [hui] at gz9
            obtain ⟨t, ht⟩ : ∃ t, t = bF V.T V.H i := ⟨_, rfl⟩
            rw [← ht] at gz9 hnx ht3
            have n1 : ¬ (i : Int) < 0 := by omega
            have hiB' : (i : Int) < (bL V).length := by omega
            simp -implicitDefEqProofs [go_sem, p1, p2, p4, p7, p9, n1, hB9.cell, rpC_5, hiB, hiB', hi9, gz9]
            refine callE_of (refNext_calls t (c : Int) w6) ?_
            rw [hnx]
            rintro v w10 ⟨rfl, b10⟩
            have bel10 := belB6.trans (b10.mono belB6.size)
            have hB10 := hB1.next bel10
            have gz10 := hcell _ bel10 i hi9
            rw [hui, ← ht] at gz10
            simp -implicitDefEqProofs [go_sem, p1, p2, p4, p7, p9, hB10.cell, rpC_5, hiB, hiB', gz10]
            refine callE_of (refTake_calls t (c : Int) (q : Int) w10) ?_
            rintro v w11 ⟨rfl, b11⟩
            have bel11 := bel10.trans (b11.mono bel10.size)
            have hB11 := hB1.next bel11
            have hC11 := hB2.next bel11
            obtain ⟨u2, hu2⟩ : ∃ u2, u2 = WM.takeW t (c : Int) (q : Int) := ⟨_, rfl⟩
            rw [← hu2] at ht3 ⊢
            have hyS : SlV w11 (.slice (some ⟨bz, oz, none⟩) (bL V).length cy) (bL V) := ⟨_, _, rfl, hyin.next bel11⟩
            have hput := rPut_calls (.slice (some ⟨bz, oz, none⟩) (bL V).length cy) i u2 w11 hyS hiB (by omega)
            simp -implicitDefEqProofs [go_sem, p1, p2, p4, p7, p9, hB11.cell, rpC_5]
            refine callE_of hput ?_
            rintro v w12 ⟨g, c12, rfl, hg, hin12, b12⟩
            have bel12 := bel11.trans (b12.mono bel11.size)
            have hB12 := hB1.next bel12
            have hC12 := hB2.next bel12
            have hgl : g < w12.heap.size := by
              obtain ⟨b', o', e2, g2⟩ := hin12.at_.cell (i := i) (by rw [List.length_set]; exact hiB)
              cases e2
              exact World.block_lt_of_cell? w12 _ g2
            have hBs := hB12.set 5 (.slice (some ⟨g, 0, none⟩) (bL V).length c12)
            rw [rpC_set5] at hBs
            have hM12 : Mod (fun k => k = w0.heap.size) w12 (w12.setCell ⟨w0.heap.size, 5, none⟩ (.slice (some ⟨g, 0, none⟩) (bL V).length c12)) := (Mod.refl (fun k => k = w0.heap.size) w12).setCell (.inl rfl) _
            have hz2 := bel11.size
            have hCs := hC12.mod hM12 (fun e => by have e : w1.heap.size = w0.heap.size := e; omega)
            have hN12 : SlV w12 (.slice (some ⟨g, 0, none⟩) (bL V).length c12) ((bL V).set i u2) := ⟨_, _, by rw [List.length_set], hin12⟩
            have hNs := hN12.mod hM12 (fun b o n c e h => by cases e; have h : g = w0.heap.size := h; omega)
            have belS : Below w0.heap.size w0 (w12.setCell ⟨w0.heap.size, 5, none⟩ (.slice (some ⟨g, 0, none⟩) (bL V).length c12)) := (bel2.trans (bel12.mono bel2.size)).setCell (Nat.le_refl _) _
            have hf12 := hB12.thaw 5
            simp -implicitDefEqProofs [go_sem, p1, p2, p4, p7, p9, hB12.cell, rpC_5, hf12]
            have hgS : g < (w12.setCell ⟨w0.heap.size, 5, none⟩ (.slice (some ⟨g, 0, none⟩) (bL V).length c12)).heap.size := by simpa using hgl
            have hltS : w1.heap.size < (w12.setCell ⟨w0.heap.size, 5, none⟩ (.slice (some ⟨g, 0, none⟩) (bL V).length c12)).heap.size := hCs.lt
            generalize World.setCell w12 _ _ = w13 at *
            refine drawE_mix [.pure 2, .pure 3, .pure 4, .take 0, .run 1 [0], .run 5 [0], .run 6 [], .pure 7, .pure 8] mixed (by decide +kernel) (by simp only [withOps, MStep.num, List.filterMap_cons, List.filterMap_nil, List.getElem?_cons_succ, List.getElem?_cons_zero, Option.map_some]; rfl) ?_
            have hBs := hBs.next (Below.refl _ _).drew
            have hCs := hCs.next (Below.refl _ _).drew
            have hNs := hNs.next (Below.refl _ _).drew
            have belS := belS.drew
            have hx13 := hx0.next belS
            generalize World.drew w13 = w14 at *
            have hldS := fun (w : World) (h : Below w14.heap.size w14 w) => ldAll (P := Tryz.prog) (hBs.next h) hst rfl rpI rfl
            simp -implicitDefEqProofs [go_sem, p1, p2, p4, p7, p9]
            refine onTake_of (fun w' => Below w14.heap.size w14 w') (.agg (rpC (shN m) x (.slice (some ⟨g, 0, none⟩) (bL V).length c12))) (Below.refl _ _) (fun w' hw => by simp -implicitDefEqProofs [go_sem, p1, p2, p4, p7, p9, (hBs.next hw).cell, rpC_0, rpC_1, rpC_2, rpC_3, rpC_4, rpC_5]; rfl) ?_
            simp -implicitDefEqProofs [go_sem, p1, p2, p4, p7, p9, hBs.cell, rpC_0, rpC_1, rpC_2, rpC_3, rpC_4, rpC_5]
            have hpl := rPlace_calls (shN m) x (.slice (some ⟨g, 0, none⟩) (bL V).length c12) i (c : Int) q w14 hx13 hNs hdat (by omega) (by omega)
            refine callE_of hpl ?_
            rintro v w15 ⟨rfl, b15⟩
            refine ⟨.inr (by simp -implicitDefEqProofs [go_sem] <;> exact b15), ?_⟩
            have hCt := hCs.next b15
            have hNt := hNs.next b15
            have belT := belS.trans (b15.mono belS.size)
            have hx15 := hx13.next b15
            have hsA := stAll (P := Tryz.prog) (cs := rpC (shN m) x (.slice (some ⟨g, 0, none⟩) (bL V).length c12)) hCt rpI rfl (rpC_one (shN m) hx15 hNt)
            simp -implicitDefEqProofs [go_sem, p1, p2, p4, p7, p9, ↓hsA]
            refine bodyCell3 4 5 6 rfl (by simp -implicitDefEqProofs [go_sem, p1, p2, p4, p7, p9]) (hCt.row _) hst rfl rpI ?_
            simp -implicitDefEqProofs [go_sem, p1, p2, p4, p7, p9]
            have belF := fun C => Below.row (g := w1.heap.size) belT (by omega) C
            have hN := fun C => hNt.mod ((Mod.refl (fun k => k = w1.heap.size) _).row (.inl rfl) C) (fun b o n c e h => by cases e; have h : g = w1.heap.size := h; omega)
            rw [ht1, ht2, ht3]
            exact ⟨x, _, ⟨rfl, rfl, rfl⟩, hx0.next (belF _), hN _, belF _, .inl rfl, .inr ⟨g, 0, _, _, rfl, by have := bel2.size; have := bel11.size; omega⟩⟩
end
end Go.Proofs.YtcpackbljaabnaaGreatDoor

/-! ### RPool6 -/
namespace Go.Proofs.YtcpackbljaabnaaGreatDoor
set_option linter.unusedVariables false
set_option linter.unusedSimpArgs false
set_option maxRecDepth 100000
open Go Go.RowKit

section
set_option maxHeartbeats 1000000
theorem rCount_calls (x : Value) (l : List (BitVec 64)) (w0 : World) (hx : SlV w0 x l) (hl : l.length ≤ 64) :
    Ret Tryz.prog 16 #[x] w0 fun v w' => v = .int .i64 (manyL l l.length : Int) ∧ Below w0.heap.size w0 w' := by
  have bel0 := Below.refl w0.heap.size w0
  obtain ⟨a, c, rfl, hin⟩ := hx
  refine ret_of (args := [_]) _ Tryz.func16 rfl Tryz.ntmps16 (by simp) ?_
  simp -implicitDefEqProofs [go_sem]
  refine wpE_loop (fun e' w' => ∃ i : Nat, i ≤ l.length ∧ e' 0 = .slice a l.length c ∧ e' 3 = .int .i64 (manyL l i : Int) ∧ e' 4 = .int .i64 (i : Int) ∧ Below w0.heap.size w0 w') (fun e' _ => l.length - (intOf (e' 4)).toNat) ?_ ?_
  · refine ⟨0, by omega, ?_⟩
    simp -implicitDefEqProofs [go_sem, manyL]
    exact bel0
  · rintro e' w1 ⟨i, hi, g0, g3, g4, bel⟩
    by_cases hil : i < l.length
    · have hil' : (i : Int) < l.length := by omega
      have k1 := IntWalk.i64_in ((i : Int) + 1) (by omega)
      obtain ⟨bz, oz, rfl, gz⟩ := (hin.next bel).at_.cell hil
      have hui : l[i] = l.getD i 0#64 := by simp [List.getD, hil]
      obtain ⟨u, hu⟩ : ∃ u, u = l.getD i 0#64 := ⟨_, rfl⟩
      rw [hui, ← hu] at gz
      have h16 := manyL_le l i
      have hu16 := listM_len u
      have hs : manyL l (i + 1) = manyL l i + (WM.listM u).length := by rw [hu]; rfl
      obtain ⟨M, hM⟩ : ∃ M, M = manyL l i := ⟨_, rfl⟩
      obtain ⟨M2, hM2⟩ : ∃ M, M = manyL l (i + 1) := ⟨_, rfl⟩
      obtain ⟨K, hK⟩ : ∃ K, K = (WM.listM u).length := ⟨_, rfl⟩
      rw [← hM] at g3 h16 hs
      rw [← hM2, ← hK] at hs
      rw [← hK] at hu16
      have k2 := IntWalk.i64_in (M2 : Int) (by omega)
      have e3 : (M : Int) + (K : Int) = (M2 : Int) := by omega
      simp -implicitDefEqProofs [go_sem, g0, g3, g4, hil, hil', gz]
      refine callE_of (refList_calls u w1) ?_
      rintro v w2 ⟨al, cl, rfl, -, b2⟩
      rw [← hK]
      simp -implicitDefEqProofs [go_sem, g0, g3, g4, k2, e3, k1]
      refine goE_round ⟨i + 1, by omega, ?_⟩ ?_
      · rw [← hM2]
        simp -implicitDefEqProofs [go_sem, g0]
        exact bel.trans (b2.mono bel.size)
      · simp -implicitDefEqProofs [go_sem, intOf, g4, k1]; omega
    · have hi' : i = l.length := by omega
      rw [hi'] at g3
      simp -implicitDefEqProofs [go_sem, g0, g3, g4, hi']
      refine body_tmp 2 rfl ?_
      simp -implicitDefEqProofs [go_sem]
      exact bel
end
end Go.Proofs.YtcpackbljaabnaaGreatDoor

/-! ### RPool7 -/
namespace Go.Proofs.YtcpackbljaabnaaGreatDoor
set_option linter.unusedVariables false
set_option linter.unusedSimpArgs false
set_option maxRecDepth 100000
open Go Go.RowKit

section
set_option maxHeartbeats 1000000
theorem refListN_calls (x : BitVec 64) (w0 : World) : Ret Tryz.prog 51 #[.int .u64 (uv x)] w0 fun v w' => ∃ a c, v = .slice a (WM.listM x).length c ∧ VsIn w' a (nats (WM.listM x)) c ∧ Below w0.heap.size w0 w' ∧ (∀ y, a = some y → w0.heap.size ≤ y.block ∧ y.block < w'.heap.size) := by
  have bel0 := Below.refl w0.heap.size w0
  have hlist : WM.listM x = lstK (WM.tR x) 16 := WM.list_ref x
  have hst := Tryz.underlying93
  refine ret_of (args := [_]) _ Tryz.func51 rfl Tryz.ntmps51 (by simp) ?_
  simp -implicitDefEqProofs [go_sem]
  refine callE_of (of_calls x w0) ?_
  rintro v w1 ⟨rfl, b1⟩
  have bel1 := bel0.trans (b1.mono bel0.size)
  simp -implicitDefEqProofs [go_sem, ↓stSlab (WM.cR x) (WM.tR x)]
  generalize hw2 : World.alloc w1 _ = w2 at *
  obtain ⟨hB2, b2, sz2⟩ := new_facts hw2
  have bel2 := bel1.trans (b2.mono bel1.size)
  refine wpE_loop (fun e' w' => ∃ (k len : Nat) (a : Option Addr) (c : Nat), k ≤ 16 ∧ e' 3 = .pointer (some ⟨w1.heap.size, 0, none⟩) ∧ e' 5 = .slice a len c ∧ e' 6 = .int .i64 k ∧ len = (lstK (WM.tR x) k).length ∧
    w'.ownsRow w2.heap.size 3 1 (.slice a len c) len (nats (lstK (WM.tR x) k)) ∧ Below w2.heap.size w2 w' ∧ w2.heap.size ≤ w'.heap.size) (fun e' _ => 16 - (intOf (e' 6)).toNat) ?_ ?_
  · refine ⟨0, 0, none, 0, by omega, ?_⟩
    simp -implicitDefEqProofs [go_sem, lstK_zero]
    exact ⟨World.ownsRow_nil _ _ _ _, Below.refl _ _⟩
  · rintro e' w' ⟨k, len, a, c, hk, h3, h5, h6, hlen, hown, bel, hsz⟩
    have hl16 : len ≤ 16 := by rw [hlen]; have := filter_len (WM.tR x) k; omega
    by_cases hlt : k < 16
    · have hlt' : (k : Int) < 16 := by omega
      have hw := IntWalk.i64_in ((k : Int) + 1) (by omega)
      have hfs := filter_succ (WM.tR x) k
      have g := (hB2.next bel).cell (1 + k)
      rw [slabC_at _ _ _ hlt] at g
      cases hh : WM.tR x k
      · rw [hh] at hfs g
        simp only [Bool.false_eq_true, if_false, List.append_nil] at hfs
        simp -implicitDefEqProofs [go_sem, h3, h5, h6, hlt, hlt', g, hw]
        refine goE_round ⟨k + 1, len, a, c, by omega, ?_⟩ ?_
        · simp -implicitDefEqProofs [go_sem, h3, h5]
          exact ⟨by rw [hfs]; exact hlen, by rw [hfs]; exact hown, bel, hsz⟩
        · simp -implicitDefEqProofs [go_sem, intOf, h6]; omega
      · rw [hh] at hfs g
        simp only [if_true] at hfs
        obtain ⟨a2, c2, w4, hr4, hown4, bel4, hsz4⟩ := push_nat w2.heap.size hown (by omega) hsz bel k
        simp -implicitDefEqProofs [go_sem, h3, h5, h6, hlt, hlt', g, hr4, hw]
        refine goE_round ⟨k + 1, len + 1, a2, c2, by omega, ?_⟩ ?_
        · simp -implicitDefEqProofs [go_sem, h3]
          exact ⟨by rw [hfs]; simp [hlen], by rw [hfs]; exact hown4, bel4, hsz4⟩
        · simp -implicitDefEqProofs [go_sem, intOf, h6]; omega
    · have hk' : k = 16 := by omega
      subst hk'
      rw [← hlist] at hlen hown
      simp -implicitDefEqProofs [go_sem, h3, h5, h6]
      refine body_tmp 2 rfl ?_
      simp -implicitDefEqProofs [go_sem]
      exact ⟨a, c, ⟨rfl, hlen, rfl⟩, owns_vsIn (by rw [nats_length]; exact hlen.symm) hown, bel2.trans (bel.mono bel2.size), fun y hy => ⟨by have := (owns_new hown y hy).1; have := bel2.size; omega, (owns_new hown y hy).2⟩⟩
theorem rAll_calls (s : HM.Shape) (x y : Value) (T B : List (BitVec 64)) (w0 : World) (hx : SlV w0 x T) (hy : SlV w0 y B) (hn : T.length ≤ 64) (hd : 0 ≤ s.data ∧ s.data ≤ 1000000) :
    Ret Tryz.prog 19 #[.agg (rpC s x y)] w0 fun v w' => ∃ a c, v = .slice a (allK s T T.length).length c ∧ VsIn w' a (nats (allK s T T.length)) c ∧ Below w0.heap.size w0 w' := by
  have bel0 := Below.refl w0.heap.size w0
  have hx0 := hx
  have hst : Tryz.prog.underlying 35 = _ := Tryz.underlying35
  obtain ⟨ax, cx, rfl, hxin⟩ := hx
  refine ret_of (args := [_]) _ Tryz.func19 rfl Tryz.ntmps19 (by simp) ?_
  simp -implicitDefEqProofs [go_sem]
  generalize hw1 : World.alloc w0 _ = w1 at *
  obtain ⟨hB1, b1, sz1⟩ := new_facts hw1
  have bel1 := bel0.trans (b1.mono bel0.size)
  refine wpE_loop (fun e' w' => ∃ (k n : Nat) (a : Option Addr) (c : Nat), k ≤ T.length ∧ e' 1 = .pointer (some ⟨w0.heap.size, 0, none⟩) ∧ e' 3 = .slice a n c ∧ e' 4 = .int .i64 (k : Int) ∧
    n = (allK s T k).length ∧ w'.ownsRow w1.heap.size 3 1 (.slice a n c) n (nats (allK s T k)) ∧ Below w1.heap.size w1 w' ∧ w1.heap.size ≤ w'.heap.size) (fun e' _ => T.length - (intOf (e' 4)).toNat) ?_ ?_
  · refine ⟨0, 0, none, 0, Nat.zero_le _, ?_⟩
    simp -implicitDefEqProofs [go_sem, allK]
    exact ⟨World.ownsRow_nil _ _ _ _, Below.refl _ _⟩
  · rintro e' w2 ⟨k, n, a, c, hk, g1, g3, g4, hnl, hown, bel2, hsz⟩
    have hB2 := hB1.next bel2
    have hle := allK_len s T k
    by_cases hlt : k < T.length
    · have hlt' : (k : Int) < T.length := by omega
      obtain ⟨k', hk'⟩ : ∃ k', k' = k + 1 := ⟨_, rfl⟩
      have hw := IntWalk.i64_in (k' : Int) (by omega)
      have e1 : (k : Int) + 1 = (k' : Int) := by omega
      obtain ⟨bz, oz, rfl, gz0⟩ := hxin.at_.cell hlt
      obtain ⟨u, hu⟩ : ∃ u, u = T.getD k 0#64 := ⟨_, rfl⟩
      have hui : T[k] = u := by rw [hu]; simp [List.getD, hlt]
      rw [hui] at gz0
      have gz : ∀ w', Below w0.heap.size w0 w' → w'.cell? ⟨bz, oz + k, none⟩ = some (.int .u64 (uv u)) := fun w' h => (h.cell (p := ⟨_, _, none⟩) (World.block_lt_of_cell? w0 _ gz0)).trans gz0
      have belW := bel1.trans (bel2.mono bel1.size)
      have hall : allK s T k' = allK s T k ++ rowK s k u := by rw [hk', hu]; rfl
      simp -implicitDefEqProofs [go_sem, g1, g3, g4, hB2.cell, rpC_4, hlt, hlt', gz w2 belW]
      refine callE_of (refListN_calls u w2) ?_
      rintro v w3 ⟨al, cl, rfl, hin, b3, hnew3⟩
      have hown3 := ownsRow_next hown b3
      have bel3 := bel2.trans (b3.mono hsz)
      have hsz3 : w1.heap.size ≤ w3.heap.size := Nat.le_trans hsz b3.size
      have hB3 := hB1.next bel3
      have belW3 := bel1.trans (bel3.mono bel1.size)
      obtain ⟨L, hL⟩ : ∃ L, L = WM.listM u := ⟨_, rfl⟩
      have hrow : rowK s k u = L.map (placeN s k (WM.classM u)) := by rw [hL]; rfl
      have hL16 : L.length ≤ 16 := by rw [hL]; exact listM_len u
      have hLlt : ∀ j ∈ L, j < 16 := fun j hj => listM_lt (hL ▸ hj)
      rw [← hL] at hin ⊢
      simp -implicitDefEqProofs [go_sem, g1, g3, g4, hB3.cell, rpC_4, hlt, hlt', gz w3 belW3]
      refine callE_of (of_calls u w3) ?_
      rintro v w4 ⟨rfl, b4⟩
      have hown4 := ownsRow_next hown3 b4
      have bel4 := bel3.trans (b4.mono hsz3)
      have hsz4 : w1.heap.size ≤ w4.heap.size := Nat.le_trans hsz3 b4.size
      have hin4 := hin.next b4
      simp -implicitDefEqProofs [go_sem, g1, g3, g4, ↓stSlab (WM.cR u) (WM.tR u)]
      have hS4' := slabC_0 (WM.cR u) (WM.tR u)
      have hB4 := hB1.next bel4
      generalize hw5 : World.alloc w4 _ = w5 at *
      obtain ⟨hB5, b5, sz5⟩ := new_facts hw5
      have bel5 := bel4.trans (b5.mono bel4.size)
      replace hin4 := hin4.next b5
      have hsz5 : w1.heap.size ≤ w5.heap.size := Nat.le_trans hsz4 b5.size
      have bel5' : Below w1.heap.size w1 w5 := (hin4 |> fun _ => bel4.trans (b5.mono hsz4))
      have hown5 := ownsRow_next hown4 b5
      have hlt45 : w4.heap.size < w5.heap.size := hB5.lt
      refine wpE_loop (fun e2 w' => ∃ (j n : Nat) (a : Option Addr) (c : Nat), j ≤ L.length ∧ e2 1 = .pointer (some ⟨w0.heap.size, 0, none⟩) ∧ e2 3 = .slice a n c ∧ e2 4 = .int .i64 (k : Int) ∧ e2 5 = .slice al L.length cl ∧ e2 6 = .pointer (some ⟨w4.heap.size, 0, none⟩) ∧ e2 8 = .int .i64 (j : Int) ∧
        n = (accL s T k u L j).length ∧ w'.ownsRow w1.heap.size 3 1 (.slice a n c) n (nats (accL s T k u L j)) ∧ Below w1.heap.size w1 w' ∧ w1.heap.size ≤ w'.heap.size ∧ VsIn w' al (nats L) cl ∧ (∀ y, al = some y → y.block < w'.heap.size ∧ Value.ownBlock (.slice a n c) ≠ some y.block) ∧
        Blk w' w4.heap.size (slabC (WM.cR u) (WM.tR u)) 93 ∧ w4.heap.size < w'.heap.size ∧ Value.ownBlock (.slice a n c) ≠ some w4.heap.size) (fun e2 _ => 17 - (intOf (e2 8)).toNat) ?_ ?_
      · refine ⟨0, n, a, c, Nat.zero_le _, ?_⟩
        simp -implicitDefEqProofs [go_sem, g1, g3, g4, accL_zero]
        refine ⟨hnl, hown5, bel5', hsz5, hin4, fun y hy => ⟨?_, fun e => ?_⟩, hB5, hlt45, fun e => ?_⟩
        · have := (hnew3 y hy).2; have := b4.size; omega
        · have := (hown.lt _ e).2; have := (hnew3 y hy).1; omega
        · have := (hown.lt _ e).2; have := b3.size; have := b4.size; omega
      · rintro e2 w6 ⟨j, n2, a2, c2, hj, q1, q3, q4, q5, q6, q8, hn2, hown6, bel6, hsz6, hin6, hap6, hS6, hlt6, hne6⟩
        by_cases hjl : j < L.length
        · have hjl' : (j : Int) < L.length := by omega
          obtain ⟨ba, oa, hal, ga⟩ := hin6.at_.cell (i := j) (by rw [nats_length]; exact hjl)
          subst hal
          simp only [nats, List.getElem_map] at ga
          have hy16 := hLlt L[j] (List.getElem_mem hjl)
          have htake : L.take (j + 1) = L.take j ++ [L[j]] := by rw [List.take_append_getElem hjl]
          generalize L[j] = yj at *
          have hB6 := hB1.next bel6
          simp -implicitDefEqProofs [go_sem, q1, q3, q4, q5, q6, q8, hjl, hjl']
          refine drawE_mix [.pure 0, .pure 2, .pure 3, .pure 5, .pure 6, .pure 7, .take 1, .take 4, .run 8 [1, 4], .run 9 [], .run 10 [], .run 11 [], .pure 12] mixed (by decide +kernel) (by simp only [withOps, MStep.num, List.filterMap_cons, List.filterMap_nil, List.getElem?_cons_succ, List.getElem?_cons_zero, Option.map_some]; rfl) ?_
          have hB7 := hB6.next (Below.refl _ _).drew
          have hS7 := hS6.next (Below.refl _ _).drew
          have hown7 := ownsRow_next hown6 (Below.refl _ _).drew
          have hin7 := hin6.next (Below.refl _ _).drew
          have bel7 := bel6.drew
          have hsz7 : w1.heap.size ≤ (World.drew w6).heap.size := hsz6
          have hlt7 : w4.heap.size < (World.drew w6).heap.size := hlt6
          have hapL : ∀ y, (some (⟨ba, oa, none⟩ : Addr)) = some y → y.block < (World.drew w6).heap.size ∧ Value.ownBlock (.slice a2 n2 c2) ≠ some y.block := hap6
          have ga7 : (World.drew w6).cell? ⟨ba, oa + j, none⟩ = some (.int .i64 (yj : Int)) := ga
          generalize World.drew w6 = w7 at *
          have hc0 := hS7.cell 0
          rw [hS4'] at hc0
          simp -implicitDefEqProofs [go_sem, q1, q3, q4, q5, q6, q8, hjl, hjl']
          refine onTake_of (fun w' => Below w7.heap.size w7 w') (.agg (rpC s (.slice (some ⟨bz, oz, none⟩) T.length cx) y)) (Below.refl _ _) (fun w' hw => by simp -implicitDefEqProofs [go_sem, q1, (hB7.next hw).cell, rpC_0, rpC_1, rpC_2, rpC_3, rpC_4, rpC_5]; rfl) ?_
          simp -implicitDefEqProofs [go_sem, q1, q3, q4, q5, q6, q8]
          refine onTake_of (fun w' => Below w7.heap.size w7 w') (.int .i64 (WM.cR u : Nat)) (Below.refl _ _) (fun w' hw => by
            have h0 := (hS7.next hw).cell 0
            rw [hS4'] at h0
            simp -implicitDefEqProofs [go_sem, q6, h0]) ?_
          have belW7 := bel1.trans (bel7.mono bel1.size)
          simp -implicitDefEqProofs [go_sem, q1, q3, q4, q5, q6, q8, hjl, hjl', ga7]
          refine callE_of (rPlace_calls s (.slice (some ⟨bz, oz, none⟩) T.length cx) y k (WM.cR u : Nat) yj w7 (hx0.next belW7) (hy.next belW7) hd (by omega) (by omega)) ?_
          rintro v w8 ⟨rfl, b8⟩
          refine ⟨.inr (by simp -implicitDefEqProofs [go_sem] <;> exact b8), ?_⟩
          have bel8 := bel7.trans (b8.mono hsz7)
          have hsz8 : w1.heap.size ≤ w8.heap.size := Nat.le_trans hsz7 b8.size
          have hown8 := ownsRow_next hown7 b8
          rw [← WM.cR_class, placeN_int s hd.1]
          have hlen2 : n2 ≤ 1000000 := by
            rw [hn2, accL, List.length_append, List.length_map]
            have := List.length_take_le j L
            omega
          obtain ⟨g9, c9, w9, hr9, hown9, hsz9, t9⟩ := push_nat2 w1.heap.size hown8 hlen2 hsz8 (placeN s k (WM.classM u) yj)
          obtain ⟨j', hj'⟩ : ∃ j', j' = j + 1 := ⟨_, rfl⟩
          have hwj := IntWalk.i64_in (j' : Int) (by omega)
          have e2' : (j : Int) + 1 = (j' : Int) := by omega
          have hnewL : accL s T k u L j' = (accL s T k u L j) ++ [placeN s k (WM.classM u) yj] := by
            unfold accL; rw [hj', htake, List.map_append, List.append_assoc]; rfl
          generalize placeN s k (WM.classM u) yj = pl at *
          have bB : Below w7.heap.size w7 (w8.alloc (.cells #[.int .i64 (pl : Int)] 3)) := b8.alloc b8.size _
          simp -implicitDefEqProofs [go_sem, q1, q3, q4, q5, q6, q8, hr9, hwj, e2']
          have hlt8 : w4.heap.size < w8.heap.size := Nat.lt_of_lt_of_le hlt7 b8.size
          refine goE_round ⟨j', n2 + 1, some ⟨g9, 0, none⟩, c9, by omega, ?_⟩ ?_
          · simp -implicitDefEqProofs [go_sem, q1, q3, q4, q5, q6, q8, hr9, hwj, e2']
            rw [hnewL]
            refine ⟨by rw [hn2]; simp, hown9, bel8.trans (t9.mod.below hsz8 (fun k hk => (hown8.lt _ hk).1)), by omega, (hin7.next b8).mod t9.mod (fun y hy e => (hapL y hy).2 e), ?_, by have := (hS7.next b8).mod t9.mod (fun e => hne6 e); rw [← WM.cR_class] at this; exact this, by omega, fun e => ?_⟩
            · have h1 := hapL _ rfl
              have h11 : ba < w7.heap.size := h1.1
              refine ⟨by have := b8.size; omega, fun e => ?_⟩
              have h12 := h1.2
              rcases t9.new g9 rfl with h2 | h2
              · first
                | exact h12 (e ▸ h2)
                | (simp only [Value.ownBlock, Option.some.injEq] at e; exact h12 (e ▸ h2))
              · have e : g9 = ba := by simpa [Value.ownBlock] using e
                have := b8.size; omega
            · have e : g9 = w4.heap.size := by simpa [Value.ownBlock] using e
              rcases t9.new g9 rfl with h2 | h2
              · exact hne6 (e ▸ h2)
              · omega
          · simp -implicitDefEqProofs [go_sem, intOf, q8, hwj, e2']; omega
        · have hj2 : j = L.length := by omega
          rw [hj2, accL, List.take_length, ← hrow, ← hall] at hn2 hown6
          simp -implicitDefEqProofs [go_sem, q1, q3, q4, q5, q6, q8, hj2, hw, e1]
          refine goE_round ⟨k', n2, a2, c2, by omega, ?_⟩ ?_
          · simp -implicitDefEqProofs [go_sem, q1, q3, q4, q5, q6, q8, hw, e1]
            exact ⟨hn2, hown6, bel6, hsz6⟩
          · simp -implicitDefEqProofs [go_sem, intOf, g4, q4, hw, e1]; omega
    · have hk2 : k = T.length := by omega
      rw [hk2] at hnl hown
      simp -implicitDefEqProofs [go_sem, g1, g3, g4, hB2.cell, rpC_4, hk2]
      refine body_tmp 2 rfl ?_
      simp -implicitDefEqProofs [go_sem]
      exact ⟨a, c, ⟨rfl, hnl, rfl⟩, owns_vsIn (by rw [nats_length]; exact hnl.symm) hown, bel1.trans (bel2.mono bel1.size)⟩
end
end Go.Proofs.YtcpackbljaabnaaGreatDoor

/-! ### RPoolN -/
namespace Go.Proofs.YtcpackbljaabnaaGreatDoor
set_option linter.unusedVariables false
set_option linter.unusedSimpArgs false
set_option maxRecDepth 100000
open Go Go.RowKit
section
set_option maxHeartbeats 1000000
theorem rNew_calls (s : HM.Shape) (m : Nat) (w0 : World) (hs : s.slabs = (m : Int)) (hm : 1 ≤ m ∧ m ≤ 64) :
    Ret Tryz.prog 8 #[.agg (shapeC s)] w0 fun v w' => ∃ x y, v = .agg (rpC s x y) ∧ SlV w' x (zL m) ∧ SlV w' y (zL m) ∧ Below w0.heap.size w0 w' ∧ FreshOr w0 (.bool true) x ∧ FreshOr w0 (.bool true) y := by
  have bel0 := Below.refl w0.heap.size w0
  have hstP : Tryz.prog.underlying 35 = _ := Tryz.underlying35
  refine ret_of (args := [_]) _ Tryz.func8 rfl Tryz.ntmps8 (by simp) ?_
  simp -implicitDefEqProofs [go_sem]
  generalize hw1 : World.alloc w0 _ = w1 at *
  obtain ⟨hB1, b1, sz1⟩ := new_facts hw1
  have bel1 := bel0.trans (b1.mono bel0.size)
  rw [← sz1]
  generalize hw2 : World.alloc w1 _ = w2 at *
  obtain ⟨hB2, b2, sz2⟩ := new_facts hw2
  have bel2 := bel1.trans (b2.mono bel1.size)
  replace hB1 := hB1.next b2
  refine drawE_alt [.pure 1, .pure 4, .take 0, .take 2, .take 5] 3 [0, 5] [.run 6 [0, 2], .run 7 [], .run 8 []] 6 [0, 2] [.run 3 [0, 5], .run 7 [], .run 8 []] mixed (by decide +kernel) (by simp only [withOps, MStep.num, List.filterMap_cons, List.filterMap_nil, List.getElem?_cons_succ, List.getElem?_cons_zero, Option.map_some]; rfl) (by simp only [withOps, MStep.num, List.filterMap_cons, List.filterMap_nil, List.getElem?_cons_succ, List.getElem?_cons_zero, Option.map_some]; rfl) (by simp only [withOps, MStep.num, List.filterMap_cons, List.filterMap_nil, List.getElem?_cons_succ, List.getElem?_cons_zero, Option.map_some]; rfl) ?_
  have hB3 := hB1.next (Below.refl _ _).drew
  have hC3 := hB2.next (Below.refl _ _).drew
  have bel3 := bel2.drew
  have hlt3 := hC3.lt
  generalize World.drew w2 = w3 at *
  have hmk := fun w => run_make_n (P := Tryz.prog) (t := 33) (e := 53) (z := .int .u64 0) (bytes := 8) Tryz.underlying33 (by kernel_rfl) rfl .i64 .i64 m (by omega) (by omega) w
  simp -implicitDefEqProofs [go_sem]
  refine onTake_of (fun w' => Below w3.heap.size w3 w') (.agg (shapeC s)) (Below.refl _ _) (fun w' hw => by simp -implicitDefEqProofs [go_sem, (hB3.next hw).cell, shapeC_0, shapeC_1, shapeC_2, shapeC_3]; rfl) ?_
  simp -implicitDefEqProofs [go_sem]
  refine onTake_of (fun w' => Below w3.heap.size w3 w') (.int .i64 (m : Int)) (Below.refl _ _) (fun w' hw => by simp -implicitDefEqProofs [go_sem, (hB3.next hw).cell, shapeC_1, hs]) ?_
  simp -implicitDefEqProofs [go_sem]
  refine onTake_of (fun w' => Below w3.heap.size w3 w') (.int .i64 (m : Int)) (Below.refl _ _) (fun w' hw => by simp -implicitDefEqProofs [go_sem, (hB3.next hw).cell, shapeC_1, hs]) ?_
  simp -implicitDefEqProofs [go_sem]
  refine ⟨?_, ?_⟩
  · simp -implicitDefEqProofs [go_sem, hB3.cell, shapeC_1, hs, hmk]
    refine ⟨.inr ((Below.refl _ _).alloc (Nat.le_refl _) _), ?_⟩
    generalize hw4 : World.alloc w3 _ = w4 at *
    obtain ⟨hB4, b4, sz4⟩ := new_facts hw4
    have bel4 := bel3.trans (b4.mono bel3.size)
    replace hB3 := hB3.next b4
    replace hC3 := hC3.next b4
    refine ⟨.inr (b4.alloc b4.size _), ?_⟩
    have hs4 : SlV w4 (.slice (some ⟨w3.heap.size, 0, none⟩) m m) (zL m) := slV_made hB4 (by omega)
    generalize hw5 : World.alloc w4 _ = w5 at *
    obtain ⟨hB5, b5, sz5⟩ := new_facts hw5
    have bel5 := bel4.trans (b5.mono bel4.size)
    replace hB3 := hB3.next b5
    replace hC3 := hC3.next b5
    have hs4 := hs4.next b5
    have hs5 : SlV w5 (.slice (some ⟨w4.heap.size, 0, none⟩) m m) (zL m) := slV_made hB5 (by omega)
    have hsA := stAll (P := Tryz.prog) (cs := #[.int .i64 s.lines, .int .i64 s.slabs, .int .i64 s.table, .int .i64 s.data, (.slice (some ⟨w3.heap.size, 0, none⟩) m m), (.slice (some ⟨w4.heap.size, 0, none⟩) m m)]) hC3 rpI rfl (rpC_one s hs4 hs5)
    simp -implicitDefEqProofs [go_sem, ↓hsA, shapeC]
    rw [← sz4]
    refine bodyOne 2 rfl (by simp -implicitDefEqProofs [go_sem]) (hC3.row _) hstP rfl rpI ?_
    have hW : ∀ C, Mod (fun k => k = w1.heap.size) w5 (w5.setRow w1.heap.size C) := fun C => (Mod.refl (fun k => k = w1.heap.size) w5).row (.inl rfl) C
    have hA4 := fun C => slV_made (m := m) ((hB4.next b5).mod (hW C) (fun e => by have e : w3.heap.size = w1.heap.size := e; omega)) (by omega)
    have hA5 := fun C => slV_made (m := m) (hB5.mod (hW C) (fun e => by have e : w4.heap.size = w1.heap.size := e; omega)) (by omega)
    exact ⟨_, _, rfl, hA4 _, hA5 _, Below.row bel5 (by have := b1.size; omega) _, .inr ⟨_, _, _, _, rfl, by have := bel3.size; omega⟩, .inr ⟨_, _, _, _, rfl, by have := bel3.size; omega⟩⟩
  · simp -implicitDefEqProofs [go_sem, hB3.cell, shapeC_1, hs, hmk]
    refine ⟨.inr ((Below.refl _ _).alloc (Nat.le_refl _) _), ?_⟩
    generalize hw4 : World.alloc w3 _ = w4 at *
    obtain ⟨hB4, b4, sz4⟩ := new_facts hw4
    have bel4 := bel3.trans (b4.mono bel3.size)
    replace hB3 := hB3.next b4
    replace hC3 := hC3.next b4
    refine ⟨.inr (b4.alloc b4.size _), ?_⟩
    have hs4 : SlV w4 (.slice (some ⟨w3.heap.size, 0, none⟩) m m) (zL m) := slV_made hB4 (by omega)
    generalize hw5 : World.alloc w4 _ = w5 at *
    obtain ⟨hB5, b5, sz5⟩ := new_facts hw5
    have bel5 := bel4.trans (b5.mono bel4.size)
    replace hB3 := hB3.next b5
    replace hC3 := hC3.next b5
    have hs4 := hs4.next b5
    have hs5 : SlV w5 (.slice (some ⟨w4.heap.size, 0, none⟩) m m) (zL m) := slV_made hB5 (by omega)
    have hsA := stAll (P := Tryz.prog) (cs := #[.int .i64 s.lines, .int .i64 s.slabs, .int .i64 s.table, .int .i64 s.data, (.slice (some ⟨w4.heap.size, 0, none⟩) m m), (.slice (some ⟨w3.heap.size, 0, none⟩) m m)]) hC3 rpI rfl (rpC_one s hs5 hs4)
    simp -implicitDefEqProofs [go_sem, ↓hsA, shapeC]
    rw [← sz4]
    refine bodyOne 2 rfl (by simp -implicitDefEqProofs [go_sem]) (hC3.row _) hstP rfl rpI ?_
    have hW : ∀ C, Mod (fun k => k = w1.heap.size) w5 (w5.setRow w1.heap.size C) := fun C => (Mod.refl (fun k => k = w1.heap.size) w5).row (.inl rfl) C
    have hA4 := fun C => slV_made (m := m) ((hB4.next b5).mod (hW C) (fun e => by have e : w3.heap.size = w1.heap.size := e; omega)) (by omega)
    have hA5 := fun C => slV_made (m := m) (hB5.mod (hW C) (fun e => by have e : w4.heap.size = w1.heap.size := e; omega)) (by omega)
    exact ⟨_, _, rfl, hA5 _, hA4 _, Below.row bel5 (by have := b1.size; omega) _, .inr ⟨_, _, _, _, rfl, by have := bel3.size; omega⟩, .inr ⟨_, _, _, _, rfl, by have := bel3.size; omega⟩⟩
end
end Go.Proofs.YtcpackbljaabnaaGreatDoor

/-! ### PoolBoth -/
namespace Go.Proofs.YtcpackbljaabnaaGreatDoor
set_option linter.unusedVariables false
set_option linter.unusedSimpArgs false
set_option maxRecDepth 100000
open Go Go.RowKit

/-- A slice's block is none of these. -/
def AwX (G : Nat → Prop) (gr : Nat) (o : Value) (x : Value) : Prop := ∀ b z k d, x = .slice (some ⟨b, z, none⟩) k d → ¬ G b ∧ o.ownBlock ≠ some b ∧ b ≠ gr
theorem SlV.lt {w : World} {x : Value} {l : List (BitVec 64)} (h : SlV w x l) (hl : 0 < l.length) {b o k d : Nat} (e : x = .slice (some ⟨b, o, none⟩) k d) : b < w.heap.size := by
  obtain ⟨a, c, rfl, hin⟩ := h
  obtain ⟨b', o', e2, g⟩ := hin.at_.cell hl
  have := World.block_lt_of_cell? w _ g
  simp only [Value.slice.injEq] at e
  rw [e.1] at e2
  cases e2
  exact this
theorem Told.mod' {w w' : World} {B : Nat} {G K : Nat → Prop} {a : Option Addr} {n c : Nat} {xs : List Nat} (h : Told w B G a n c xs) (hm : Mod K w w') (hK : ∀ g, Value.ownBlock (.slice a n c) = some g → ¬ K g) : Told w' B G a n c xs :=
  ⟨ownsRow_mod h.own hm hK, h.len, h.small, h.away⟩
structure Both (w0 w : World) (m b p tb tc hb hc : Nat) (V : PV) (F : Nat → Prop) (gr gs B : Nat) (a : Option Addr) (n c : Nat) (xs : List Nat) (x y : Value) (RT RB : List (BitVec 64)) : Prop where
  pd : PD w b p (shN m) V.T V.H tb tc hb hc F V.D
  ref : Blk w gr (rpC (shN m) x y) 35
  sx : SlV w x RT
  sy : SlV w y RB
  sh : Blk w gs (shapeC (shN m)) 30
  tl : Told w B (PdK b tb hb F) a n c xs
  bel : Below w0.heap.size w0 w
  sz : B ≤ w.heap.size
  ge : ∀ k, PdK b tb hb F k → w0.heap.size ≤ k
  ap1 : ¬ PdK b tb hb F gr
  ap2 : ¬ PdK b tb hb F gs
  ax : AwX (PdK b tb hb F) gr (.slice a n c) x
  ay : AwX (PdK b tb hb F) gr (.slice a n c) y
  lx : 0 < RT.length
  ly : 0 < RB.length
  lt1 : gr < B ∧ w0.heap.size ≤ gr
  lt2 : gs < B ∧ gs ≠ gr
section
variable {w0 w w' : World} {m b p tb tc hb hc : Nat} {V V' : PV} {F F' : Nat → Prop} {gr gs B : Nat} {a : Option Addr} {n c : Nat} {xs : List Nat} {x y x' y' : Value} {RT RB RT' RB' : List (BitVec 64)}
theorem Both.next (h : Both w0 w m b p tb tc hb hc V F gr gs B a n c xs x y RT RB) (hb' : Below w.heap.size w w') : Both w0 w' m b p tb tc hb hc V F gr gs B a n c xs x y RT RB :=
  ⟨h.pd.next hb', h.ref.next hb', h.sx.next hb', h.sy.next hb', h.sh.next hb', h.tl.next hb', h.bel.trans (hb'.mono h.bel.size), Nat.le_trans h.sz hb'.size, h.ge, h.ap1, h.ap2, h.ax, h.ay, h.lx, h.ly, h.lt1, h.lt2⟩
/-- A step of the pool. -/
theorem Both.turn (h : Both w0 w m b p tb tc hb hc V F gr gs B a n c xs x y RT RB) (hp : PD w' b p (shN m) V'.T V'.H tb tc hb hc F' V'.D) (t : Turn w (PdK b tb hb F) w' (PdK b tb hb F')) : Both w0 w' m b p tb tc hb hc V' F' gr gs B a n c xs x y RT RB := by
  have hn : ∀ k, k < w.heap.size → ¬ PdK b tb hb F k → ¬ PdK b tb hb F' k := fun k hk h1 h2 => by
    rcases t.new k h2 with h3 | h3
    · exact h1 h3
    · omega
  exact ⟨hp, h.ref.mod t.mod h.ap1, h.sx.mod t.mod (fun b o n c e => (h.ax b o n c e).1), h.sy.mod t.mod (fun b o n c e => (h.ay b o n c e).1), h.sh.mod t.mod h.ap2, h.tl.turn t, h.bel.trans (t.mod.below h.bel.size h.ge), Nat.le_trans h.sz t.size, t.ge h.bel.size h.ge,
    hn _ h.ref.lt h.ap1, hn _ h.sh.lt h.ap2, fun b o n c e => ⟨hn _ (h.sx.lt h.lx e) (h.ax b o n c e).1, (h.ax b o n c e).2⟩, fun b o n c e => ⟨hn _ (h.sy.lt h.ly e) (h.ay b o n c e).1, (h.ay b o n c e).2⟩, h.lx, h.ly, h.lt1, h.lt2⟩
theorem awX_fresh (h : Both w0 w m b p tb tc hb hc V F gr gs B a n c xs x y RT RB) {u u' : Value} (hu : AwX (PdK b tb hb F) gr (.slice a n c) u) (hf : FreshOr w u u') : AwX (PdK b tb hb F) gr (.slice a n c) u' := by
  rcases hf with rfl | ⟨g, o, n', c', rfl, hg⟩
  · exact hu
  · intro b z k d e
    simp only [Value.slice.injEq, Option.some.injEq, Addr.mk.injEq] at e
    obtain ⟨⟨rfl, -, -⟩, -, -⟩ := e
    refine ⟨fun hk => ?_, fun ho => ?_, ?_⟩
    · have := h.pd.lt _ hk; omega
    · have := (h.tl.own.lt _ ho).2; omega
    · have := h.ref.lt; omega
/-- A step of the document's pool, stored. -/
theorem Both.ref_step (h : Both w0 w m b p tb tc hb hc V F gr gs B a n c xs x y RT RB) (hb' : Below w.heap.size w w') (hx : SlV w' x' RT') (hy : SlV w' y' RB') (fx : FreshOr w x x') (fy : FreshOr w y y') (lx : 0 < RT'.length) (ly : 0 < RB'.length) :
    Both w0 (w'.setRow gr (rpC (shN m) x' y')) m b p tb tc hb hc V F gr gs B a n c xs x' y' RT' RB' := by
  have h1 := h.next hb'
  have a1 := awX_fresh h h.ax fx
  have a2 := awX_fresh h h.ay fy
  have hM : Mod (fun k => k = gr) w' (w'.setRow gr (rpC (shN m) x' y')) := (Mod.refl (fun k => k = gr) w').row (.inl rfl) _
  refine ⟨h1.pd.mod hM (fun k hk e => h.ap1 (by cases e; exact hk)), h1.ref.row _, hx.mod hM (fun b o n c e => (a1 b o n c e).2.2), hy.mod hM (fun b o n c e => (a2 b o n c e).2.2), h1.sh.mod hM h.lt2.2, h1.tl.mod' hM (fun g hg e => ?_), h1.bel.trans (hM.below h1.bel.size (fun k e => by cases e; exact h.lt1.2)), by have := hM.size; have := h1.sz; omega, h.ge, h.ap1, h.ap2, a1, a2, lx, ly, h.lt1, h.lt2⟩
  have e : g = gr := e
  have := (h.tl.own.lt g hg).1; have := h.lt1; omega
/-- One more is told. -/
theorem Both.push (h : Both w0 w m b p tb tc hb hc V F gr gs B a n c xs x y RT RB) (hn : n ≤ 1000000) (u : Nat) (hu : u ≤ 10000) :
    ∃ g c2 w2, (appendB #[37, 37] 37 #[.slice a n c, .slice (some ⟨w.heap.size, 0, none⟩) 1 1]).run Tryz.prog (w.alloc (.cells #[.int .i64 (u : Int)] 3)) = .ok (.slice (some ⟨g, 0, none⟩) (n + 1) c2) w2 ∧
      Both w0 w2 m b p tb tc hb hc V F gr gs B (some ⟨g, 0, none⟩) (n + 1) c2 (xs ++ [u]) x y RT RB := by
  obtain ⟨g, c2, w2, h1, h2, h3, h4⟩ := push_nat2 B h.tl.own hn h.sz u
  have hge : ∀ k, Value.ownBlock (.slice a n c) = some k → B ≤ k := fun k hk => (h.tl.own.lt k hk).1
  have hown : ∀ b, b < w.heap.size → Value.ownBlock (.slice a n c) ≠ some b → Value.ownBlock (.slice (some ⟨g, 0, none⟩) (n + 1) c2) ≠ some b := fun b hb he e => by
    simp only [Value.ownBlock, Option.some.injEq] at e
    subst e
    rcases h4.new _ rfl with h5 | h5
    · exact he h5
    · omega
  have hB0 : w0.heap.size ≤ B := by have := h.lt1; omega
  refine ⟨g, c2, w2, h1, ⟨h.pd.mod h4.mod (fun k hk e => h.tl.away k e hk), h.ref.mod h4.mod (fun e => by have := hge _ e; have := h.lt1; omega), h.sx.mod h4.mod (fun b o n c e => (h.ax b o n c e).2.1), h.sy.mod h4.mod (fun b o n c e => (h.ay b o n c e).2.1), h.sh.mod h4.mod (fun e => by have := hge _ e; have := h.lt2; omega),
    ⟨h2, by rw [List.length_append, h.tl.len]; rfl, fun z hz => ?_, fun g' hg' hk => ?_⟩, h.bel.trans (h4.mod.below h.bel.size (fun k hk => Nat.le_trans hB0 (hge k hk))), by have := h.sz; omega, h.ge, h.ap1, h.ap2, fun b o n c e => ⟨(h.ax b o n c e).1, hown b (h.sx.lt h.lx e) (h.ax b o n c e).2.1, (h.ax b o n c e).2.2⟩, fun b o n c e => ⟨(h.ay b o n c e).1, hown b (h.sy.lt h.ly e) (h.ay b o n c e).2.1, (h.ay b o n c e).2.2⟩, h.lx, h.ly, h.lt1, h.lt2⟩⟩
  · rcases List.mem_append.1 hz with hz | hz
    · exact h.tl.small z hz
    · rw [List.mem_singleton.1 hz]; exact hu
  · simp only [Value.ownBlock, Option.some.injEq] at hg'
    subst hg'
    rcases h4.new _ rfl with h5 | h5
    · exact h.tl.away _ h5 hk
    · have := h.pd.lt _ hk; omega
end
end Go.Proofs.YtcpackbljaabnaaGreatDoor
