/- NvmActs: its walk. -/
import Derived.Test.YtkljlgahdlgmpaaNvmRef8
import Derived.Test.YtkljlgahdlgmpaaNvmLaw1
namespace Go.Proofs.Ytkljlgahdlgmpaa
set_option linter.unusedVariables false
set_option linter.unusedSimpArgs false
open Go Go.RowKit

theorem blk_turn {w w' : World} {F F' : Nat → Prop} {b : Nat} {C : Array Value} {e : TypeId} (h : Blk w b C e) (ht : Turn w F w' F') (hn : ¬ F b) : Blk w' b C e := (ht.mod.block b h.lt hn).trans h
theorem devB_row {w : World} {p g : Nat} {F : Nat → Prop} {D : NM.Dv} (h : DevB w p F D) (hg : ¬ F g) (C : Array Value) : DevB (w.setRow g C) p F D := by
  obtain ⟨lb, S, hA, rfl, hok⟩ := h
  exact ⟨lb, S, hA.mod ((Mod.refl (fun j => j = g) w).row (.inl rfl) C) (fun k hk e => hg (e ▸ hk)), rfl, hok⟩
/-- A device and the document's, side by side. -/
structure Both (W w : World) (p mb : Nat) (F : Nat → Prop) (D : NM.Dv) (cv : Value) (lf : Int) : Prop where
  st : St W w p F D
  blk : Blk w mb #[cv, .bool D.down, .int .i64 lf, .int .i64 D.steps] 60
  ref : RefV w (fun k => F k ∨ k = mb) (.agg #[cv, .bool D.down, .int .i64 lf, .int .i64 D.steps]) D
  one : cv.oneCell' = true
  nF : ¬ F mb
section
variable {W w w' : World} {p mb : Nat} {F F' : Nat → Prop} {D : NM.Dv} {cv : Value} {lf : Int}
theorem Both.next (h : Both W w p mb F D cv lf) (hb : Below w.heap.size w w') : Both W w' p mb F D cv lf := ⟨h.st.next hb, h.blk.next hb, h.ref.next hb, h.one, h.nF⟩
theorem Both.lt (h : Both W w p mb F D cv lf) : ∀ k, (F k ∨ k = mb) → k < w.heap.size := fun k hk => by
  rcases hk with hk | hk
  · exact h.st.dev.lt k hk
  · rw [hk]; exact h.blk.lt
/-- The device took a step; what is left of the document's. -/
theorem Both.turned (h : Both W w p mb F D cv lf) (ht : Turn w F w' F') : Blk w' mb #[cv, .bool D.down, .int .i64 lf, .int .i64 D.steps] 60 ∧ RefV w' (fun k => F' k ∨ k = mb) (.agg #[cv, .bool D.down, .int .i64 lf, .int .i64 D.steps]) D ∧ ¬ F' mb := by
  have hn : ¬ F' mb := turn_not ht h.blk.lt h.nF
  refine ⟨blk_turn h.blk ht h.nF, h.ref.turn ⟨ht.mod.mono (fun k hk _ => .inl hk), fun k hk => ?_⟩, hn⟩
  rcases hk with hk | hk
  · rcases ht.new k hk with h | h
    · exact .inl (.inl h)
    · exact .inr h
  · exact .inl (.inr hk)
/-- The document's took it, too, and is stored. -/
theorem Both.stored {D' : NM.Dv} {v' : Value} {C : Array Value} (hs : St W w p F D') (hb : Blk w mb C 60) (hr : RefV w (fun k => F k ∨ k = mb) v' D') (hn : ¬ F mb) (hm : W.heap.size ≤ mb) :
    ∃ cv' lf', v' = .agg #[cv', .bool D'.down, .int .i64 lf', .int .i64 D'.steps] ∧ (∀ v ∈ (#[cv', .bool D'.down, .int .i64 lf', .int .i64 D'.steps] : Array Value).toList, v.oneCell' = true) ∧
      Both W (w.setRow mb #[cv', .bool D'.down, .int .i64 lf', .int .i64 D'.steps]) p mb F D' cv' lf' := by
  have hr0 := hr
  obtain ⟨cv', lf', hv, hc, hl, hI⟩ := hr
  subst hv
  refine ⟨cv', lf', rfl, devC_one hc.oneC _ _ _, ⟨devB_row hs.dev hn _, Below.row hs.bel hm _, hs.ge⟩, hb.row _, ?_, hc.oneC, hn⟩
  exact hr0.turn ⟨(Mod.refl _ _).row (.inl (.inr rfl)) _, fun k hk => .inl hk⟩
end
set_option maxRecDepth 20000 in
set_option maxHeartbeats 8000000 in
set_option linter.unusedSimpArgs false in
theorem nvmActs_walk (a : Option Addr) (b : List (BitVec 8)) (c : Nat) (al : Option Addr) (l : List ActV) (cap : Nat) (w0 : World) (hb : SlIn .u8 w0 a b c) (hin : ActsIn w0 al l cap) :
    Ret Try.prog 9 #[.slice a b.length c, .slice al l.length cap] w0 fun v w' => v = .bool true ∧ Below w0.heap.size w0 w' := by
  have bel0 := Below.refl w0.heap.size w0
  have hmax := hin.max
  have hle := hin.le
  have hble := hb.le
  have hbmx := hb.max
  have hb0 := hb
  have hin0 := hin
  have hdst := Try.underlying60
  refine ret_of (args := [_, _]) _ Try.func9 rfl Try.ntmps9 (by simp) ?_
  simp -implicitDefEqProofs [go_sem]
  refine callE_of (alive_calls w0) ?_
  rintro v w1 ⟨rfl, b1⟩
  have bel1 := bel0.trans (b1.mono bel0.size)
  replace hb := hb.next b1
  replace hin := hin.next b1
  simp -implicitDefEqProofs [go_sem]
  refine callE_of (heavy_calls al l cap w1 hin) ?_
  rintro v w2 ⟨rfl, b2⟩
  have bel2 := bel1.trans (b2.mono bel1.size)
  replace hb := hb.next b2
  replace hin := hin.next b2
  by_cases hh : heavyB l = true
  · simp -implicitDefEqProofs [go_sem, hh]
    refine body_tmp 4 rfl ?_
    simp -implicitDefEqProofs [go_sem]
    exact bel2
  replace hh : heavyB l = false := by simpa using hh
  have hlen := heavy_len hh
  by_cases hbig : (512 : Int) < b.length
  · simp -implicitDefEqProofs [go_sem, hh, hbig]
    refine body_tmp 4 rfl ?_
    simp -implicitDefEqProofs [go_sem]
    exact bel2
  simp -implicitDefEqProofs [go_sem, hh, hbig]
  refine callE_of (of_calls a b c w2 hb) ?_
  rintro v w3 ⟨b3, ⟨hno, rfl⟩ | ⟨hr, p, F3, rfl, hD, hFg⟩⟩
  · have bel3 := bel2.trans (b3.mono bel2.size)
    replace hb := hb.next b3
    replace hin := hin.next b3
    simp -implicitDefEqProofs [go_sem]
    refine callE_of (rright_calls b.length w3 (by omega)) ?_
    rintro v w4 ⟨bb, rfl, hbb, rfl⟩
    have hbf : bb = false := by cases bb; rfl; exact absurd (hbb.1 rfl) hno
    subst hbf
    simp -implicitDefEqProofs [go_sem]
    refine body_tmp 4 rfl ?_
    simp -implicitDefEqProofs [go_sem]
    exact bel3
  · have bel3 := bel2.trans (b3.mono bel2.size)
    replace hb := hb.next b3
    replace hin := hin.next b3
    have hS3 : St w0 w3 p F3 (ofD b) := ⟨hD, bel3, fun k hk => by have := hFg k hk; have := bel2.size; omega⟩
    simp -implicitDefEqProofs [go_sem]
    refine callE_of (rright_calls b.length w3 (by omega)) ?_
    rintro v w4 ⟨bb, rfl, hbb, rfl⟩
    have hbf : bb = true := hbb.2 hr
    subst hbf
    simp -implicitDefEqProofs [go_sem]
    refine callE_of (rof_calls (F := F3) a b c w4 hb hr (fun k hk => hS3.dev.lt k hk)) ?_
    rintro v w5 ⟨hR5, b5⟩
    have bel5 := bel3.trans (b5.mono bel3.size)
    replace hb := hb.next b5
    replace hin := hin.next b5
    have hS5 := hS3.next b5
    obtain ⟨cv0, lf0, rfl, hcv0, hlf0, hI0⟩ := id hR5
    have hstD := stNew (P := Try.prog) (t := 60) (ty := 60) (cs := #[cv0, .bool (ofD b).down, .int .i64 lf0, .int .i64 (ofD b).steps]) (C0 := #[.slice none 0 0, .bool false, .int .i64 0, .int .i64 0]) rdevI4 rfl (devC_one hcv0.oneC _ _ _)
    unfold devC
    simp -implicitDefEqProofs [go_sem, ↓hstD]
    generalize hw6 : World.alloc w5 _ = w6 at *
    obtain ⟨hB6, b6, sz6⟩ := new_facts hw6
    have bel6 := bel5.trans (b6.mono bel5.size)
    have hS6 := hS5.next b6
    have hlt5 := hS5.dev.lt
    have hB0 : Both w0 w6 p w5.heap.size F3 (ofD b) cv0 lf0 := by
      refine ⟨hS6, hB6, ?_, hcv0.oneC, fun h => by have := hlt5 _ h; omega⟩
      have tw : Turn w5 F3 w5 (fun k => F3 k ∨ k = w5.heap.size) := turn_wide (Nat.le_refl _)
      exact (hR5.turn tw).next b6
    obtain ⟨N, hN⟩ : ∃ N, N = b.length / 64 := ⟨_, rfl⟩
    have hDl : (ofD b).ls.length = N := by unfold ofD; rw [partD_len, hN]
    have hDs : (ofD b).steps = 0 := rfl
    have hbN : b.length = 64 * N := by have := hr.1; omega
    have hN1 : 1 ≤ N := by have := hr.2.1; omega
    generalize ofD b = D0 at *
    have b56 : Below w0.heap.size w0 w6 := bel6
    clear hstD
    refine wpE_loop (fun e' w' => ∃ (k : Nat) (F : Nat → Prop) (D : NM.Dv) (cv : Value) (lf : Int), k ≤ l.length ∧ e' 0 = .slice a b.length c ∧ e' 5 = .pointer (some ⟨p, 0, none⟩) ∧ e' 6 = .pointer (some ⟨w5.heap.size, 0, none⟩) ∧ e' 36 = .slice al l.length cap ∧ e' 37 = .int .i64 l.length ∧ e' 38 = .int .i64 k ∧
      Both w0 w' p w5.heap.size F D cv lf ∧ D.ls.length = N ∧ D.steps ≤ k) (fun e' _ => l.length - (intOf (e' 38)).toNat) ?_ ?_
    · refine ⟨0, F3, D0, cv0, lf0, by omega, ?_, ?_, ?_, ?_, ?_, ?_, hB0, hDl, by omega⟩ <;> simp -implicitDefEqProofs [go_sem]
    · rintro e' w7 ⟨k, F, D, cv, lf, hk, g0, g5, g6, g36, g37, g38, hB, hDl, hDs⟩
      have hcv1 := hB.one
      have hok := hB.st.dev.ok
      by_cases hlt : k < l.length
      · have hlt' : (k : Int) < l.length := by omega
        have hwk := IntWalk.i64_in ((k : Int) + 1) (by omega)
        obtain ⟨ba, oa, rfl, hcell, hAok⟩ := (hin0.next hB.st.bel).get hlt
        have hld := ldCells (P := Try.prog) (w := w7) (g := ba) (o := oa + k * 4) (cs := l[k].cs) Try.underlying30 rfl actI rfl hcell
        have hst1 := actNew l[k].cs rfl (ActV.cs_one _)
        have hA0 : l[k].Ok w0 := hin0.ok _ (List.getElem_mem hlt)
        generalize l[k] = A at *
        simp -implicitDefEqProofs [go_sem, g0, g5, g6, g36, g37, g38, hlt, hlt', ↓hld, ↓hst1]
        have hAok0 := hAok
        have bel7 := hB.st.bel
        have hlt7 := hB.st.dev.lt
        have hge := bel5.size
        generalize hw8 : World.alloc w7 _ = w8 at *
        obtain ⟨hB8, b8, sz8⟩ := new_facts hw8
        have bel8 := bel7.trans (b8.mono bel7.size)
        replace hB := hB.next b8
        replace hAok := hAok.next b8
        have hst40 : D.steps < 1099511627776 := by omega
        have hst6 : D.steps < 1000000 := by omega
        by_cases h2 : A.kind % 8#8 = 2#8
        · simp -implicitDefEqProofs [go_sem, hB8.cell, ActV.cs, h2, g0, g5, g6, g36, g37, g38]
          refine callE_of (flushB A.off w8 hB.st.dev hAok.off hst40) ?_
          rintro v w9 ⟨rfl, F9, h9, t9⟩
          have hl9 := NM.flush_len D A.off
          have hs9 := flush_steps D A.off
          obtain ⟨hm9, hr9, hn9⟩ := hB.turned t9
          have hS9 := hB.st.step h9 t9
          have hlt9 : ∀ k, (F9 k ∨ k = w5.heap.size) → k < w9.heap.size := fun k hk => by rcases hk with hk | hk; exact h9.lt k hk; rw [hk]; exact hm9.lt
          have hA9 := blk_turn hB8 t9 (fun hf => by have := hlt7 _ hf; omega)
          simp -implicitDefEqProofs [go_sem, g0, g5, g6, g36, g37, g38, hm9.cell, hA9.cell, ActV.cs]
          have hRC := rflush_calls (F := fun k => F9 k ∨ k = w5.heap.size) A.off _ w9 hr9 hlt9 hAok.off hok hst6
          generalize (D.flush A.off).1 = E at *
          generalize (D.flush A.off).2 = er at *
          refine callE_of hRC ?_
          rintro u w10 ⟨v', rfl, hr10, b10⟩
          obtain ⟨cv', lf', rfl, hone', hB11⟩ := Both.stored (hS9.next b10) (hm9.next b10) hr10 hn9 hge
          have hst11 := stAll (P := Try.prog) (ty := 60) (cs := #[cv', .bool E.down, .int .i64 lf', .int .i64 E.steps]) (hm9.next b10) rdevI4 rfl hone'
          simp -implicitDefEqProofs [go_sem, g0, g5, g6, g36, g37, g38, ↓hst11]
          generalize hw11 : World.setRow w10 _ _ = w11 at *
          refine drawE_mix [.pure 0, .pure 1, .pure 2, .pure 3, .pure 4, .pure 5, .pure 6, .pure 7, .pure 8, .pure 9, .pure 11, .take 12, .run 10 [12], .pure 13, .pure 14] mixed (by decide +kernel) (by simp only [withOps, MStep.num, List.filterMap_cons, List.filterMap_nil, List.getElem?_cons_succ, List.getElem?_cons_zero, Option.map_some]; rfl) ?_
          replace hB11 := hB11.next (Below.refl _ _).drew
          generalize World.drew w11 = w12 at *
          simp -implicitDefEqProofs [go_sem, g0, g5, g6, g36, g37, g38]
          refine onTake_of (fun w' => Below w12.heap.size w12 w') (.int .i64 E.steps) (Below.refl _ _) (fun w' hw => by simp -implicitDefEqProofs [go_sem, (hB11.blk.next hw).cell]) ?_
          simp -implicitDefEqProofs [go_sem, g0, g5, g6, g36, g37, g38]
          refine callE_of (stepsB w12 hB11.st.dev) ?_
          rintro u w13 ⟨rfl, rfl⟩
          refine ⟨.inr (by simp -implicitDefEqProofs [go_sem]; exact Below.refl _ _), ?_⟩
          simp -implicitDefEqProofs [go_sem, g0, g5, g6, g36, g37, g38, hwk]
          refine goE_round ⟨k + 1, F9, E, cv', lf', by omega, ?_, ?_, ?_, ?_, ?_, ?_, hB11, by omega, by omega⟩ ?_
          · simp -implicitDefEqProofs [go_sem, g0]
          · simp -implicitDefEqProofs [go_sem, g5]
          · simp -implicitDefEqProofs [go_sem, g6]
          · simp -implicitDefEqProofs [go_sem, g36]
          · simp -implicitDefEqProofs [go_sem, g37]
          · simp -implicitDefEqProofs [go_sem]
          · simp -implicitDefEqProofs [go_sem, intOf, g38]; omega
        by_cases h3 : A.kind % 8#8 = 3#8
        · have h2' : (A.kind % 8#8 == 2#8) = false := by rw [h3]; rfl
          simp -implicitDefEqProofs [go_sem, hB8.cell, ActV.cs, h2, h2', h3, g0, g5, g6, g36, g37, g38]
          refine callE_of (fenceB w8 hB.st.dev hst40) ?_
          rintro v w9 ⟨rfl, F9, h9, t9⟩
          have hl9 := NM.fence_len D
          have hs9 := fence_steps D
          obtain ⟨hm9, hr9, hn9⟩ := hB.turned t9
          have hS9 := hB.st.step h9 t9
          have hlt9 : ∀ k, (F9 k ∨ k = w5.heap.size) → k < w9.heap.size := fun k hk => by rcases hk with hk | hk; exact h9.lt k hk; rw [hk]; exact hm9.lt
          have hA9 := blk_turn hB8 t9 (fun hf => by have := hlt7 _ hf; omega)
          simp -implicitDefEqProofs [go_sem, g0, g5, g6, g36, g37, g38, hm9.cell, hA9.cell, ActV.cs]
          have hRC := rfence_calls (F := fun k => F9 k ∨ k = w5.heap.size) _ w9 hr9 hlt9 hok hst6
          generalize D.fence.1 = E at *
          generalize D.fence.2 = er at *
          refine callE_of hRC ?_
          rintro u w10 ⟨v', rfl, hr10, b10⟩
          obtain ⟨cv', lf', rfl, hone', hB11⟩ := Both.stored (hS9.next b10) (hm9.next b10) hr10 hn9 hge
          have hst11 := stAll (P := Try.prog) (ty := 60) (cs := #[cv', .bool E.down, .int .i64 lf', .int .i64 E.steps]) (hm9.next b10) rdevI4 rfl hone'
          simp -implicitDefEqProofs [go_sem, g0, g5, g6, g36, g37, g38, ↓hst11]
          generalize hw11 : World.setRow w10 _ _ = w11 at *
          refine drawE_mix [.pure 0, .pure 1, .pure 2, .pure 3, .pure 4, .pure 5, .pure 6, .pure 7, .pure 8, .pure 9, .pure 11, .take 12, .run 10 [12], .pure 13, .pure 14] mixed (by decide +kernel) (by simp only [withOps, MStep.num, List.filterMap_cons, List.filterMap_nil, List.getElem?_cons_succ, List.getElem?_cons_zero, Option.map_some]; rfl) ?_
          replace hB11 := hB11.next (Below.refl _ _).drew
          generalize World.drew w11 = w12 at *
          simp -implicitDefEqProofs [go_sem, g0, g5, g6, g36, g37, g38]
          refine onTake_of (fun w' => Below w12.heap.size w12 w') (.int .i64 E.steps) (Below.refl _ _) (fun w' hw => by simp -implicitDefEqProofs [go_sem, (hB11.blk.next hw).cell]) ?_
          simp -implicitDefEqProofs [go_sem, g0, g5, g6, g36, g37, g38]
          refine callE_of (stepsB w12 hB11.st.dev) ?_
          rintro u w13 ⟨rfl, rfl⟩
          refine ⟨.inr (by simp -implicitDefEqProofs [go_sem]; exact Below.refl _ _), ?_⟩
          simp -implicitDefEqProofs [go_sem, g0, g5, g6, g36, g37, g38, hwk]
          refine goE_round ⟨k + 1, F9, E, cv', lf', by omega, ?_, ?_, ?_, ?_, ?_, ?_, hB11, by omega, by omega⟩ ?_
          · simp -implicitDefEqProofs [go_sem, g0]
          · simp -implicitDefEqProofs [go_sem, g5]
          · simp -implicitDefEqProofs [go_sem, g6]
          · simp -implicitDefEqProofs [go_sem, g36]
          · simp -implicitDefEqProofs [go_sem, g37]
          · simp -implicitDefEqProofs [go_sem]
          · simp -implicitDefEqProofs [go_sem, intOf, g38]; omega
        have h2' : (A.kind % 8#8 == 2#8) = false := by rw [beq_eq_false_iff_ne]; exact h2
        have h3' : (A.kind % 8#8 == 3#8) = false := by rw [beq_eq_false_iff_ne]; exact h3
        by_cases h4 : A.kind % 8#8 = 4#8
        · simp -implicitDefEqProofs [go_sem, hB8.cell, ActV.cs, h2, h2', h3, h3', h4, g0, g5, g6, g36, g37, g38]
          refine callE_of (loadB A.off w8 hB.st.dev hAok.off) ?_
          rintro v w9 ⟨rfl, rfl⟩
          have hRC := rload_calls (F := fun k => F k ∨ k = w5.heap.size) A.off _ w9 hB.ref hAok.off hok hst6
          have hbm := hB.blk
          simp -implicitDefEqProofs [go_sem, g0, g5, g6, g36, g37, g38, hB8.cell, hbm.cell, ActV.cs]
          generalize hld9 : D.load A.off = L at *
          refine callE_of hRC ?_
          rintro u w11 ⟨rfl, b11⟩
          have hB11 := hB.next b11
          simp -implicitDefEqProofs [go_sem, g0, g5, g6, g36, g37, g38]
          obtain ⟨E, rfl⟩ : ∃ E, E = D := ⟨_, rfl⟩
          obtain ⟨F9, rfl⟩ : ∃ F9, F9 = F := ⟨_, rfl⟩
          obtain ⟨cv', rfl⟩ : ∃ cv', cv' = cv := ⟨_, rfl⟩
          obtain ⟨lf', rfl⟩ : ∃ lf', lf' = lf := ⟨_, rfl⟩
          refine drawE_mix [.pure 0, .pure 1, .pure 2, .pure 3, .pure 4, .pure 5, .pure 6, .pure 7, .pure 8, .pure 9, .pure 11, .take 12, .run 10 [12], .pure 13, .pure 14] mixed (by decide +kernel) (by simp only [withOps, MStep.num, List.filterMap_cons, List.filterMap_nil, List.getElem?_cons_succ, List.getElem?_cons_zero, Option.map_some]; rfl) ?_
          replace hB11 := hB11.next (Below.refl _ _).drew
          generalize World.drew w11 = w12 at *
          simp -implicitDefEqProofs [go_sem, g0, g5, g6, g36, g37, g38]
          refine onTake_of (fun w' => Below w12.heap.size w12 w') (.int .i64 E.steps) (Below.refl _ _) (fun w' hw => by simp -implicitDefEqProofs [go_sem, (hB11.blk.next hw).cell]) ?_
          simp -implicitDefEqProofs [go_sem, g0, g5, g6, g36, g37, g38]
          refine callE_of (stepsB w12 hB11.st.dev) ?_
          rintro u w13 ⟨rfl, rfl⟩
          refine ⟨.inr (by simp -implicitDefEqProofs [go_sem]; exact Below.refl _ _), ?_⟩
          simp -implicitDefEqProofs [go_sem, g0, g5, g6, g36, g37, g38, hwk]
          refine goE_round ⟨k + 1, F9, E, cv', lf', by omega, ?_, ?_, ?_, ?_, ?_, ?_, hB11, by omega, by omega⟩ ?_
          · simp -implicitDefEqProofs [go_sem, g0]
          · simp -implicitDefEqProofs [go_sem, g5]
          · simp -implicitDefEqProofs [go_sem, g6]
          · simp -implicitDefEqProofs [go_sem, g36]
          · simp -implicitDefEqProofs [go_sem, g37]
          · simp -implicitDefEqProofs [go_sem]
          · simp -implicitDefEqProofs [go_sem, intOf, g38]; omega
        have h4' : (A.kind % 8#8 == 4#8) = false := by rw [beq_eq_false_iff_ne]; exact h4
        by_cases h5 : A.kind % 8#8 = 5#8
        · obtain ⟨z, hz, hzl⟩ : ∃ z : Nat, uv (A.n % 9#64) = (z : Int) ∧ z < 9 := ⟨(A.n % 9#64).toNat, rfl, by rw [BitVec.toNat_umod]; exact Nat.mod_lt _ (by decide)⟩
          have kwz := IntWalk.i64_in (z : Int) (by omega)
          have kwz1 := IntWalk.i64_in ((z : Int) - 1) (by omega)
          simp -implicitDefEqProofs [go_sem, hB8.cell, ActV.cs, h2, h2', h3, h3', h4, h4', h5, g0, g5, g6, g36, g37, g38, hz, kwz, kwz1]
          refine callE_of (stopB ((z : Int) - 1) w8 hB.st.dev (by omega)) ?_
          rintro v w9 ⟨rfl, F9, h9, t9⟩
          have hl9 := NM.stop_len D ((z : Int) - 1)
          have hs9 : (D.stop ((z : Int) - 1)).steps = D.steps := by unfold NM.Dv.stop; split <;> rfl
          obtain ⟨hm9, hr9, hn9⟩ := hB.turned t9
          have hS9 := hB.st.step h9 t9
          have hlt9 : ∀ k, (F9 k ∨ k = w5.heap.size) → k < w9.heap.size := fun k hk => by rcases hk with hk | hk; exact h9.lt k hk; rw [hk]; exact hm9.lt
          have hA9 := blk_turn hB8 t9 (fun hf => by have := hlt7 _ hf; omega)
          simp -implicitDefEqProofs [go_sem, g0, g5, g6, g36, g37, g38, hm9.cell, hA9.cell, ActV.cs]
          simp -implicitDefEqProofs [go_sem, hz, kwz, kwz1]
          have hRC := rstop_calls (F := fun k => F9 k ∨ k = w5.heap.size) ((z : Int) - 1) _ w9 hr9 (by unfold I64; omega)
          generalize D.stop ((z : Int) - 1) = E at *
          refine callE_of hRC ?_
          rintro v' w10 ⟨hr10, b10⟩
          obtain ⟨cv', lf', rfl, hone', hB11⟩ := Both.stored (hS9.next b10) (hm9.next b10) hr10 hn9 hge
          have hst11 := stAll (P := Try.prog) (ty := 60) (cs := #[cv', .bool E.down, .int .i64 lf', .int .i64 E.steps]) (hm9.next b10) rdevI4 rfl hone'
          simp -implicitDefEqProofs [go_sem, g0, g5, g6, g36, g37, g38, ↓hst11]
          generalize hw11 : World.setRow w10 _ _ = w11 at *
          refine drawE_mix [.pure 0, .pure 1, .pure 2, .pure 3, .pure 4, .pure 5, .pure 6, .pure 7, .pure 8, .pure 9, .pure 11, .take 12, .run 10 [12], .pure 13, .pure 14] mixed (by decide +kernel) (by simp only [withOps, MStep.num, List.filterMap_cons, List.filterMap_nil, List.getElem?_cons_succ, List.getElem?_cons_zero, Option.map_some]; rfl) ?_
          replace hB11 := hB11.next (Below.refl _ _).drew
          generalize World.drew w11 = w12 at *
          simp -implicitDefEqProofs [go_sem, g0, g5, g6, g36, g37, g38]
          refine onTake_of (fun w' => Below w12.heap.size w12 w') (.int .i64 E.steps) (Below.refl _ _) (fun w' hw => by simp -implicitDefEqProofs [go_sem, (hB11.blk.next hw).cell]) ?_
          simp -implicitDefEqProofs [go_sem, g0, g5, g6, g36, g37, g38]
          refine callE_of (stepsB w12 hB11.st.dev) ?_
          rintro u w13 ⟨rfl, rfl⟩
          refine ⟨.inr (by simp -implicitDefEqProofs [go_sem]; exact Below.refl _ _), ?_⟩
          simp -implicitDefEqProofs [go_sem, g0, g5, g6, g36, g37, g38, hwk]
          refine goE_round ⟨k + 1, F9, E, cv', lf', by omega, ?_, ?_, ?_, ?_, ?_, ?_, hB11, by omega, by omega⟩ ?_
          · simp -implicitDefEqProofs [go_sem, g0]
          · simp -implicitDefEqProofs [go_sem, g5]
          · simp -implicitDefEqProofs [go_sem, g6]
          · simp -implicitDefEqProofs [go_sem, g36]
          · simp -implicitDefEqProofs [go_sem, g37]
          · simp -implicitDefEqProofs [go_sem]
          · simp -implicitDefEqProofs [go_sem, intOf, g38]; omega
        have h5' : (A.kind % 8#8 == 5#8) = false := by rw [beq_eq_false_iff_ne]; exact h5
        by_cases h6 : A.kind % 8#8 = 6#8
        · simp -implicitDefEqProofs [go_sem, hB8.cell, ActV.cs, h2, h2', h3, h3', h4, h4', h5, h5', h6, g0, g5, g6, g36, g37, g38]
          refine callE_of (crashB A.pa A.pc A.picks w8 hB.st.dev hAok.picks (hA0.sep (fun k hk => hB.st.ge k hk)) hst40) ?_
          rintro v w9 ⟨rfl, F9, h9, t9⟩
          have hl9 := NM.crash_len D A.picks
          have hs9 : (D.crash A.picks).steps = D.steps := by unfold NM.Dv.crash; split <;> rfl
          obtain ⟨hm9, hr9, hn9⟩ := hB.turned t9
          have hS9 := hB.st.step h9 t9
          have hlt9 : ∀ k, (F9 k ∨ k = w5.heap.size) → k < w9.heap.size := fun k hk => by rcases hk with hk | hk; exact h9.lt k hk; rw [hk]; exact hm9.lt
          have hA9 := blk_turn hB8 t9 (fun hf => by have := hlt7 _ hf; omega)
          simp -implicitDefEqProofs [go_sem, g0, g5, g6, g36, g37, g38, hm9.cell, hA9.cell, ActV.cs]
          have hRC := rcrash_calls (F := fun k => F9 k ∨ k = w5.heap.size) A.pa A.picks A.pc _ w9 hr9 hlt9 (hA0.picks.below hS9.bel) hok hst6
          generalize D.crash A.picks = E at *
          refine callE_of hRC ?_
          rintro v' w10 ⟨hr10, b10⟩
          obtain ⟨cv', lf', rfl, hone', hB11⟩ := Both.stored (hS9.next b10) (hm9.next b10) hr10 hn9 hge
          have hst11 := stAll (P := Try.prog) (ty := 60) (cs := #[cv', .bool E.down, .int .i64 lf', .int .i64 E.steps]) (hm9.next b10) rdevI4 rfl hone'
          simp -implicitDefEqProofs [go_sem, g0, g5, g6, g36, g37, g38, ↓hst11]
          generalize hw11 : World.setRow w10 _ _ = w11 at *
          refine drawE_mix [.pure 0, .pure 1, .pure 2, .pure 3, .pure 4, .pure 5, .pure 6, .pure 7, .pure 8, .pure 9, .pure 11, .take 12, .run 10 [12], .pure 13, .pure 14] mixed (by decide +kernel) (by simp only [withOps, MStep.num, List.filterMap_cons, List.filterMap_nil, List.getElem?_cons_succ, List.getElem?_cons_zero, Option.map_some]; rfl) ?_
          replace hB11 := hB11.next (Below.refl _ _).drew
          generalize World.drew w11 = w12 at *
          simp -implicitDefEqProofs [go_sem, g0, g5, g6, g36, g37, g38]
          refine onTake_of (fun w' => Below w12.heap.size w12 w') (.int .i64 E.steps) (Below.refl _ _) (fun w' hw => by simp -implicitDefEqProofs [go_sem, (hB11.blk.next hw).cell]) ?_
          simp -implicitDefEqProofs [go_sem, g0, g5, g6, g36, g37, g38]
          refine callE_of (stepsB w12 hB11.st.dev) ?_
          rintro u w13 ⟨rfl, rfl⟩
          refine ⟨.inr (by simp -implicitDefEqProofs [go_sem]; exact Below.refl _ _), ?_⟩
          simp -implicitDefEqProofs [go_sem, g0, g5, g6, g36, g37, g38, hwk]
          refine goE_round ⟨k + 1, F9, E, cv', lf', by omega, ?_, ?_, ?_, ?_, ?_, ?_, hB11, by omega, by omega⟩ ?_
          · simp -implicitDefEqProofs [go_sem, g0]
          · simp -implicitDefEqProofs [go_sem, g5]
          · simp -implicitDefEqProofs [go_sem, g6]
          · simp -implicitDefEqProofs [go_sem, g36]
          · simp -implicitDefEqProofs [go_sem, g37]
          · simp -implicitDefEqProofs [go_sem]
          · simp -implicitDefEqProofs [go_sem, intOf, g38]; omega
        have h6' : (A.kind % 8#8 == 6#8) = false := by rw [beq_eq_false_iff_ne]; exact h6
        by_cases h7 : A.kind % 8#8 = 7#8
        · simp -implicitDefEqProofs [go_sem, hB8.cell, ActV.cs, h2, h2', h3, h3', h4, h4', h5, h5', h6, h6', h7, g0, g5, g6, g36, g37, g38]
          refine drawE_mix [.pure 0, .pure 1, .pure 6, .take 2, .pure 3, .take 5, .take 7, .pure 8, .run 4 [5, 7], .run 9 [], .pure 10] mixed (by decide +kernel) (by simp only [withOps, MStep.num, List.filterMap_cons, List.filterMap_nil, List.getElem?_cons_succ, List.getElem?_cons_zero, Option.map_some]; rfl) ?_
          have hd8 : Below w8.heap.size w8 w8.drew := (Below.refl _ _).drew
          replace hB := hB.next hd8
          replace hB8 := hB8.next hd8
          generalize World.drew w8 = w9 at *
          have ht1 := Int.tmod_lt_of_pos A.off (show (0 : Int) < 12 by decide)
          have ht2 := Int.lt_tmod_of_pos A.off (show (0 : Int) < 12 by decide)
          obtain ⟨q, hq⟩ : ∃ q, q = A.off.tmod 12 := ⟨_, rfl⟩
          have hwq := IntWalk.i64_in q (by omega)
          simp -implicitDefEqProofs [go_sem, g0, g5, g6, g36, g37, g38]
          refine onTake_of (fun w' => Below w9.heap.size w9 w') (.int .i64 A.off) (Below.refl _ _) (fun w' hw => by simp -implicitDefEqProofs [go_sem, (hB8.next hw).cell, ActV.cs]) ?_
          simp -implicitDefEqProofs [go_sem, g0, g5, g6, g36, g37, g38, ← hq, hwq]
          refine onTake_of (fun w' => Below w9.heap.size w9 w') (.agg #[cv, .bool D.down, .int .i64 lf, .int .i64 D.steps]) (Below.refl _ _) (fun w' hw => by simp -implicitDefEqProofs [go_sem, (hB.blk.next hw).cell, g6]) ?_
          simp -implicitDefEqProofs [go_sem, g0, g5, g6, g36, g37, g38]
          refine onTake_of (fun w' => Below w9.heap.size w9 w') (.int .i64 A.off) (Below.refl _ _) (fun w' hw => by simp -implicitDefEqProofs [go_sem, (hB8.next hw).cell, ActV.cs]) ?_
          simp -implicitDefEqProofs [go_sem, g0, g5, g6, g36, g37, g38, ← hq, hwq]
          refine callE_of (mayB q w9 hB.st.dev hst40) ?_
          rintro u w10 ⟨rfl, rfl⟩
          refine ⟨.inr (by simp -implicitDefEqProofs [go_sem]; exact Below.refl _ _), ?_⟩
          simp -implicitDefEqProofs [go_sem, g0, g5, g6, g36, g37, g38, ← hq, hwq]
          refine callE_of (rmay_calls (F := fun k => F k ∨ k = w5.heap.size) q _ w10 hB.ref (by unfold I64; omega)) ?_
          rintro u w11 ⟨rfl, b11⟩
          refine ⟨.inr (by simp -implicitDefEqProofs [go_sem]), ?_⟩
          have hB11 := hB.next b11
          simp -implicitDefEqProofs [go_sem, g0, g5, g6, g36, g37, g38]
          obtain ⟨E, rfl⟩ : ∃ E, E = D := ⟨_, rfl⟩
          obtain ⟨F9, rfl⟩ : ∃ F9, F9 = F := ⟨_, rfl⟩
          obtain ⟨cv', rfl⟩ : ∃ cv', cv' = cv := ⟨_, rfl⟩
          obtain ⟨lf', rfl⟩ : ∃ lf', lf' = lf := ⟨_, rfl⟩
          refine drawE_mix [.pure 0, .pure 1, .pure 2, .pure 3, .pure 4, .pure 5, .pure 6, .pure 7, .pure 8, .pure 9, .pure 11, .take 12, .run 10 [12], .pure 13, .pure 14] mixed (by decide +kernel) (by simp only [withOps, MStep.num, List.filterMap_cons, List.filterMap_nil, List.getElem?_cons_succ, List.getElem?_cons_zero, Option.map_some]; rfl) ?_
          replace hB11 := hB11.next (Below.refl _ _).drew
          generalize World.drew w11 = w12 at *
          simp -implicitDefEqProofs [go_sem, g0, g5, g6, g36, g37, g38]
          refine onTake_of (fun w' => Below w12.heap.size w12 w') (.int .i64 E.steps) (Below.refl _ _) (fun w' hw => by simp -implicitDefEqProofs [go_sem, (hB11.blk.next hw).cell]) ?_
          simp -implicitDefEqProofs [go_sem, g0, g5, g6, g36, g37, g38]
          refine callE_of (stepsB w12 hB11.st.dev) ?_
          rintro u w13 ⟨rfl, rfl⟩
          refine ⟨.inr (by simp -implicitDefEqProofs [go_sem]; exact Below.refl _ _), ?_⟩
          simp -implicitDefEqProofs [go_sem, g0, g5, g6, g36, g37, g38, hwk]
          refine goE_round ⟨k + 1, F9, E, cv', lf', by omega, ?_, ?_, ?_, ?_, ?_, ?_, hB11, by omega, by omega⟩ ?_
          · simp -implicitDefEqProofs [go_sem, g0]
          · simp -implicitDefEqProofs [go_sem, g5]
          · simp -implicitDefEqProofs [go_sem, g6]
          · simp -implicitDefEqProofs [go_sem, g36]
          · simp -implicitDefEqProofs [go_sem, g37]
          · simp -implicitDefEqProofs [go_sem]
          · simp -implicitDefEqProofs [go_sem, intOf, g38]; omega
        have h7' : (A.kind % 8#8 == 7#8) = false := by rw [beq_eq_false_iff_ne]; exact h7
        simp -implicitDefEqProofs [go_sem, hB8.cell, ActV.cs, h2, h2', h3, h3', h4, h4', h5, h5', h6, h6', h7, h7', g0, g5, g6, g36, g37, g38]
        refine callE_of (storeB A.off A.n w8 hB.st.dev hAok.off hst40) ?_
        rintro v w9 ⟨rfl, F9, h9, t9⟩
        have hl9 := NM.store_len D A.off A.n
        have hs9 := store_steps D A.off A.n
        obtain ⟨hm9, hr9, hn9⟩ := hB.turned t9
        have hS9 := hB.st.step h9 t9
        have hlt9 : ∀ k, (F9 k ∨ k = w5.heap.size) → k < w9.heap.size := fun k hk => by rcases hk with hk | hk; exact h9.lt k hk; rw [hk]; exact hm9.lt
        have hA9 := blk_turn hB8 t9 (fun hf => by have := hlt7 _ hf; omega)
        simp -implicitDefEqProofs [go_sem, g0, g5, g6, g36, g37, g38, hm9.cell, hA9.cell, ActV.cs]
        have hRC := rstore_calls (F := fun k => F9 k ∨ k = w5.heap.size) A.off A.n _ w9 hr9 hlt9 hAok.off hok hst6
        generalize (D.store A.off A.n).1 = E at *
        generalize (D.store A.off A.n).2 = er at *
        refine callE_of hRC ?_
        rintro u w10 ⟨v', rfl, hr10, b10⟩
        obtain ⟨cv', lf', rfl, hone', hB11⟩ := Both.stored (hS9.next b10) (hm9.next b10) hr10 hn9 hge
        have hst11 := stAll (P := Try.prog) (ty := 60) (cs := #[cv', .bool E.down, .int .i64 lf', .int .i64 E.steps]) (hm9.next b10) rdevI4 rfl hone'
        simp -implicitDefEqProofs [go_sem, g0, g5, g6, g36, g37, g38, ↓hst11]
        generalize hw11 : World.setRow w10 _ _ = w11 at *
        refine drawE_mix [.pure 0, .pure 1, .pure 2, .pure 3, .pure 4, .pure 5, .pure 6, .pure 7, .pure 8, .pure 9, .pure 11, .take 12, .run 10 [12], .pure 13, .pure 14] mixed (by decide +kernel) (by simp only [withOps, MStep.num, List.filterMap_cons, List.filterMap_nil, List.getElem?_cons_succ, List.getElem?_cons_zero, Option.map_some]; rfl) ?_
        replace hB11 := hB11.next (Below.refl _ _).drew
        generalize World.drew w11 = w12 at *
        simp -implicitDefEqProofs [go_sem, g0, g5, g6, g36, g37, g38]
        refine onTake_of (fun w' => Below w12.heap.size w12 w') (.int .i64 E.steps) (Below.refl _ _) (fun w' hw => by simp -implicitDefEqProofs [go_sem, (hB11.blk.next hw).cell]) ?_
        simp -implicitDefEqProofs [go_sem, g0, g5, g6, g36, g37, g38]
        refine callE_of (stepsB w12 hB11.st.dev) ?_
        rintro u w13 ⟨rfl, rfl⟩
        refine ⟨.inr (by simp -implicitDefEqProofs [go_sem]; exact Below.refl _ _), ?_⟩
        simp -implicitDefEqProofs [go_sem, g0, g5, g6, g36, g37, g38, hwk]
        refine goE_round ⟨k + 1, F9, E, cv', lf', by omega, ?_, ?_, ?_, ?_, ?_, ?_, hB11, by omega, by omega⟩ ?_
        · simp -implicitDefEqProofs [go_sem, g0]
        · simp -implicitDefEqProofs [go_sem, g5]
        · simp -implicitDefEqProofs [go_sem, g6]
        · simp -implicitDefEqProofs [go_sem, g36]
        · simp -implicitDefEqProofs [go_sem, g37]
        · simp -implicitDefEqProofs [go_sem]
        · simp -implicitDefEqProofs [go_sem, intOf, g38]; omega
      · have hlt' : ¬ (k : Int) < l.length := by omega
        simp -implicitDefEqProofs [go_sem, g0, g5, g6, g36, g37, g38, hlt']
        refine drawE_mix [.pure 0, .take 3, .run 1 [3], .take 2, .run 4 [2], .run 5 [2], .pure 6, .pure 7, .pure 8, .pure 10, .pure 11, .run 9 [], .pure 12, .pure 13, .pure 14] mixed (by decide +kernel) (by simp only [withOps, MStep.num, List.filterMap_cons, List.filterMap_nil, List.getElem?_cons_succ, List.getElem?_cons_zero, Option.map_some]; rfl) ?_
        replace hB := hB.next (Below.refl _ _).drew
        generalize World.drew w7 = w8 at *
        have himl := NM.image_len hok
        have hDsz : D.size = b.length := by unfold NM.Dv.size; omega
        simp -implicitDefEqProofs [go_sem, g0, g5, g6]
        refine onTake_of (fun w' => Below w8.heap.size w8 w') (.agg #[cv, .bool D.down, .int .i64 lf, .int .i64 D.steps]) (Below.refl _ _) (fun w' hw => by simp -implicitDefEqProofs [go_sem, (hB.blk.next hw).cell, g6]) ?_
        simp -implicitDefEqProofs [go_sem, g0, g5, g6]
        refine callE_of (imageB w8 hB.st.dev) ?_
        rintro u w9 ⟨a9, c9, rfl, in9, b9, n9⟩
        refine ⟨.inr (by simp -implicitDefEqProofs [go_sem]; exact b9), ?_⟩
        have hB9 := hB.next b9
        simp -implicitDefEqProofs [go_sem]
        refine onTake_of (fun w' => Below w9.heap.size w9 w') (.string (strB D.image)) (Below.refl _ _) (fun w' hw => by simp -implicitDefEqProofs [go_sem, img_str in9 himl.symm hw]) ?_
        simp -implicitDefEqProofs [go_sem]
        refine callE_of (rimage_calls (F := fun k => F k ∨ k = w5.heap.size) _ w9 hB9.ref hok (by omega)) ?_
        rintro u w10 ⟨a10, c10, rfl, in10, b10⟩
        refine ⟨.inr (by simp -implicitDefEqProofs [go_sem]; exact b10), ?_⟩
        simp -implicitDefEqProofs [go_sem, g0, g5, img_str in10 himl.symm (Below.refl _ _)]
        refine callE_of (sizeB w10 (hB9.next b10).st.dev) ?_
        rintro u w11 ⟨rfl, rfl⟩
        refine ⟨.inr (by simp -implicitDefEqProofs [go_sem]), ?_⟩
        simp -implicitDefEqProofs [go_sem, g0, g5, hDsz]
        refine body_tmp 4 rfl ?_
        simp -implicitDefEqProofs [go_sem]
        exact (hB9.next b10).st.bel
end Go.Proofs.Ytkljlgahdlgmpaa
