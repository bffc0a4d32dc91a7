/- SureAlone: its walk. -/
import Derived.Test.YtkljlgahdlgmpaaSureLaw3
namespace Go.Proofs.Ytkljlgahdlgmpaa
open Go Go.RowKit

set_option maxRecDepth 20000 in
set_option maxHeartbeats 8000000 in
set_option linter.unusedSimpArgs false in
theorem sureAlone_walk (a : Option Addr) (l : List (BitVec 64)) (cap : Nat) (s2 : Value) (off : Int) (many : Int) (after : BitVec 8) (w0 : World) (hin : SlIn .u64 w0 a l cap) (ho : I64 off) (hs2 : s2.oneCell' = true) :
    Ret Try.prog 12 #[.agg #[.slice a l.length cap, s2, .int .i64 off, .int .i64 many, .int .u8 (uv after)]] w0 fun v w' => v = .bool true ∧ Below w0.heap.size w0 w' := by
  have bel0 := Below.refl w0.heap.size w0
  have hmax := hin.max
  have hle := hin.le
  refine ret_of (args := [_]) _ Try.func12 rfl Try.ntmps12 (by simp) ?_
  simp -implicitDefEqProofs [go_sem]
  generalize hw1 : World.alloc w0 _ = w1 at *
  obtain ⟨hB1, b1, sz1⟩ := new_facts hw1
  have bel1 := bel0.trans (b1.mono bel0.size)
  replace hin := hin.next b1
  refine callE_of (alive4_calls w1) ?_
  rintro v w2 ⟨rfl, b2⟩
  have bel2 := bel1.trans (b2.mono bel1.size)
  replace hB1 := hB1.next b2
  replace hin := hin.next b2
  by_cases h80 : 80 < l.length
  · have h80' : (80 : Int) < l.length := by omega
    simp -implicitDefEqProofs [go_sem, hB1.cell, h80, h80']
    refine body_tmp 2 rfl ?_
    simp -implicitDefEqProofs [go_sem]
    exact bel2
  have h80' : ¬ (80 : Int) < l.length := by omega
  simp -implicitDefEqProofs [go_sem, hB1.cell, h80, h80']
  refine callE_of (two_calls a l cap after w2 hin (by omega)) ?_
  rintro v w3 ⟨p, q, F, G, rfl, hs3⟩
  obtain ⟨D, hD⟩ : ∃ D, D = (rndS l l.length).stop (uv after) := ⟨_, rfl⟩
  rw [← hD] at hs3
  have hl8 : D.ls.length = 8 := by rw [hD, NM.stop_len, rndS_len]
  have hst : D.steps ≤ 80 := by
    have h1 := rndS_steps l l.length
    have h2 : D.steps = (rndS l l.length).steps := by rw [hD]; unfold NM.Dv.stop; split <;> rfl
    omega
  clear hD
  have hc3 := (hB1.next hs3.one.bel).cell
  by_cases hr : 0 ≤ off ∧ off.tmod 8 = 0 ∧ off ≤ 504
  · obtain ⟨r1, r2, r3⟩ := hr
    obtain ⟨o, rfl⟩ := Int.eq_ofNat_of_zero_le r1
    have r2' : ((o : Int).tmod 8 == 0) = true := by rw [beq_iff_eq]; exact r2
    have ho8 : o % 8 = 0 := by rw [Int.tmod_eq_emod_of_nonneg r1] at r2; omega
    have ho504 : o ≤ 504 := by omega
    simp -implicitDefEqProofs [go_sem, hc3, r1, r2, r2', r3]
    have hpp := put_putAll hl8 ho8 ho504 5#64
    have hlE : (runS D (putS o 5#64)).1.ls.length = 8 := by rw [runS_len, hl8]
    have hstE : (runS D (putS o 5#64)).1.steps ≤ 83 := by have h1 := runS_steps D (putS o 5#64); have h2 : (putS o 5#64).length = 3 := rfl; omega
    have hpn := putAll_none hlE ho8 ho504
    have fin : ∀ w', Below w2.heap.size w2 w' → Below w0.heap.size w0 w' := fun w' h => bel2.trans (h.mono bel2.size)
    refine drawE_alt [.pure 0, .pure 1, .pure 4, .pure 5, .take 2, .take 6] 3 [6] [.run 7 [2, 6], .run 8 [], .pure 9, .pure 10] 7 [2, 6] [.run 3 [6], .run 8 [], .pure 9, .pure 10] mixed (by decide +kernel) (by simp only [withOps, MStep.num, List.filterMap_cons, List.filterMap_nil, List.getElem?_cons_succ, List.getElem?_cons_zero, Option.map_some]; rfl) (by simp only [withOps, MStep.num, List.filterMap_cons, List.filterMap_nil, List.getElem?_cons_succ, List.getElem?_cons_zero, Option.map_some]; rfl) (by simp only [withOps, MStep.num, List.filterMap_cons, List.filterMap_nil, List.getElem?_cons_succ, List.getElem?_cons_zero, Option.map_some]; rfl) ?_
    replace hs3 := hs3.drew
    generalize World.drew w3 = w4 at *
    have hB4 := hB1.next hs3.one.bel
    obtain ⟨S, hS⟩ : ∃ S : World → Prop, S = fun w' => Blk w' w0.heap.size #[.slice a l.length cap, s2, .int .i64 o, .int .i64 many, .int .u8 (uv after)] 81 := ⟨_, rfl⟩
    have hSc : ∀ w', S w' → w'.cell? ⟨w0.heap.size, 2, none⟩ = some (.int .i64 o) := fun w' h => by rw [hS] at h; exact h.cell 2
    have hS4 : S w4 := by rw [hS]; exact hB4
    have hSb : ∀ w', Below w2.heap.size w2 w' → S w' := fun w' h => by rw [hS]; exact hB1.next h
    simp -implicitDefEqProofs [go_sem]
    refine onTake_of S (.int .i64 o) hS4 (fun w' hw => by simp -implicitDefEqProofs [go_sem, hSc w' hw]) ?_
    simp -implicitDefEqProofs [go_sem]
    refine onTake_of S (.int .i64 o) hS4 (fun w' hw => by simp -implicitDefEqProofs [go_sem, hSc w' hw]) ?_
    simp -implicitDefEqProofs [go_sem]
    refine ⟨?_, ?_⟩
    · refine callE_of (put_calls' o 5#64 w4 hs3.one.dev ho (by omega)) ?_
      rintro v w5 ⟨rfl, F5, h5, t5⟩
      have hs5 := hs3.first h5 t5
      have hb6 : Below w5.heap.size w5 (w5.alloc (.cells #[.int .u64 5] 28)) := (Below.refl _ _).alloc (Nat.le_refl _) _
      have hs6 := hs5.next hb6
      have hB6 := Blk.new w5 #[.int .u64 5] 28
      have hin6 : SlIn .u64 (w5.alloc (.cells #[.int .u64 5] 28)) (some ⟨w5.heap.size, 0, none⟩) [5#64] 1 := ⟨slAt_blk hB6 (fun i hi => by
        have : i = 0 := by simp at hi; omega
        subst this; rfl), by simp, by decide, fun h => by cases h⟩
      refine ⟨.inr (by simp -implicitDefEqProofs [go_sem]; exact hSb _ hs5.one.bel), ?_⟩
      simp -implicitDefEqProofs [go_sem]
      refine ⟨.inr (hSb _ hs6.one.bel), ?_⟩
      refine callE_of (putAll_calls o (some ⟨w5.heap.size, 0, none⟩) [5#64] 1 _ hs6.two.dev hin6 ho (by omega)) ?_
      rintro v w7 ⟨rfl, G7, h7, t7⟩
      have hs7 := hs6.second h7 t7
      generalize F5 = F7 at *
      refine ⟨.inr (by simp -implicitDefEqProofs [go_sem]), ?_⟩
      rw [hpp] at hs7 ⊢
      simp -implicitDefEqProofs [go_sem]
      refine callE_of (same_calls' w7 hs7 hlE (by omega)) ?_
      rintro v w8 ⟨rfl, b8⟩
      have hs8 := hs7.next b8
      have hc8 := hSc _ (hSb _ hs8.one.bel)
      simp -implicitDefEqProofs [go_sem, hc8]
      refine callE_of (putAll_calls o none [] 0 w8 hs8.one.dev ⟨.inl rfl, Nat.le_refl _, by decide, fun _ => rfl⟩ ho (by omega)) ?_
      rintro v w9 ⟨rfl, F9, h9, t9⟩
      have hs9 := hs8.first h9 t9
      rw [hpn] at hs9 ⊢
      simp -implicitDefEqProofs [go_sem]
      refine callE_of (fenceB w9 hs9.two.dev (by omega)) ?_
      rintro v w10 ⟨rfl, G10, h10, t10⟩
      have hs10 := hs9.second h10 t10
      simp -implicitDefEqProofs [go_sem]
      have hlF : (runS D (putS o 5#64)).1.fence.1.ls.length = 8 := by rw [NM.fence_len, hlE]
      have hsF := fence_steps (runS D (putS o 5#64)).1
      refine callE_of (same_calls' w10 hs10 hlF (by omega)) ?_
      rintro v w11 ⟨rfl, b11⟩
      simp -implicitDefEqProofs [go_sem]
      refine body_tmp 2 rfl ?_
      simp -implicitDefEqProofs [go_sem]
      exact fin _ (hs10.next b11).one.bel
    · have hb5 : Below w4.heap.size w4 (w4.alloc (.cells #[.int .u64 5] 28)) := (Below.refl _ _).alloc (Nat.le_refl _) _
      have hs5 := hs3.next hb5
      have hB5 := Blk.new w4 #[.int .u64 5] 28
      have hFlt := hs3.one.dev.lt
      refine ⟨.inr (hSb _ hs5.one.bel), ?_⟩
      generalize hw5 : World.alloc w4 _ = w5 at *
      refine callE_of (put_calls' o 5#64 w5 hs5.one.dev ho (by omega)) ?_
      rintro v w6 ⟨rfl, F7, h6, t6⟩
      have hs6 := hs5.first h6 t6
      have hB6 := hB5.mod t6.mod (fun hf => by have := hFlt _ hf; omega)
      have hin6 : SlIn .u64 w6 (some ⟨w4.heap.size, 0, none⟩) [5#64] 1 := ⟨slAt_blk hB6 (fun i hi => by
        have : i = 0 := by simp at hi; omega
        subst this; rfl), by simp, by decide, fun h => by cases h⟩
      refine ⟨.inr (by simp -implicitDefEqProofs [go_sem]; exact hSb _ hs6.one.bel), ?_⟩
      simp -implicitDefEqProofs [go_sem]
      refine callE_of (putAll_calls o (some ⟨w4.heap.size, 0, none⟩) [5#64] 1 _ hs6.two.dev hin6 ho (by omega)) ?_
      rintro v w7 ⟨rfl, G7, h7, t7⟩
      have hs7 := hs6.second h7 t7
      refine ⟨.inr (by simp -implicitDefEqProofs [go_sem]), ?_⟩
      rw [hpp] at hs7 ⊢
      simp -implicitDefEqProofs [go_sem]
      refine callE_of (same_calls' w7 hs7 hlE (by omega)) ?_
      rintro v w8 ⟨rfl, b8⟩
      have hs8 := hs7.next b8
      have hc8 := hSc _ (hSb _ hs8.one.bel)
      simp -implicitDefEqProofs [go_sem, hc8]
      refine callE_of (putAll_calls o none [] 0 w8 hs8.one.dev ⟨.inl rfl, Nat.le_refl _, by decide, fun _ => rfl⟩ ho (by omega)) ?_
      rintro v w9 ⟨rfl, F9, h9, t9⟩
      have hs9 := hs8.first h9 t9
      rw [hpn] at hs9 ⊢
      simp -implicitDefEqProofs [go_sem]
      refine callE_of (fenceB w9 hs9.two.dev (by omega)) ?_
      rintro v w10 ⟨rfl, G10, h10, t10⟩
      have hs10 := hs9.second h10 t10
      simp -implicitDefEqProofs [go_sem]
      have hlF : (runS D (putS o 5#64)).1.fence.1.ls.length = 8 := by rw [NM.fence_len, hlE]
      have hsF := fence_steps (runS D (putS o 5#64)).1
      refine callE_of (same_calls' w10 hs10 hlF (by omega)) ?_
      rintro v w11 ⟨rfl, b11⟩
      simp -implicitDefEqProofs [go_sem]
      refine body_tmp 2 rfl ?_
      simp -implicitDefEqProofs [go_sem]
      exact fin _ (hs10.next b11).one.bel
  · have fin : ∀ w', Below w2.heap.size w2 w' → Below w0.heap.size w0 w' := fun w' h => bel2.trans (h.mono bel2.size)
    obtain ⟨e1, e2⟩ := wrong_put hl8 hr 5#64
    by_cases r1 : 0 ≤ off
    · by_cases r2 : off.tmod 8 = 0
      · have r3 : ¬ off ≤ 504 := fun h => hr ⟨r1, r2, h⟩
        have r2' : (off.tmod 8 == 0) = true := by rw [beq_iff_eq]; exact r2
        simp -implicitDefEqProofs [go_sem, hc3, r1, r2, r2', r3]
        refine callE_of (put_calls' off 5#64 w3 hs3.one.dev ho (by omega)) ?_
        rintro v w4 ⟨rfl, F4, h4, t4⟩
        have hs4 := hs3.first h4 t4
        have hc4 := (hB1.next hs4.one.bel).cell
        have e1' : ((runS D (putS off 5#64)).2 != 0) = true := by rw [bne_iff_ne]; exact e1
        simp -implicitDefEqProofs [go_sem, hc4, e1, e1']
        have hs4' := hs4.next ((Below.refl w4.heap.size w4).alloc (Nat.le_refl _) (.cells #[.int .u64 5] 28))
        have hB5 := Blk.new w4 #[.int .u64 5] 28
        have hin5 : SlIn .u64 (w4.alloc (.cells #[.int .u64 5] 28)) (some ⟨w4.heap.size, 0, none⟩) [5#64] 1 := ⟨slAt_blk hB5 (fun i hi => by
          have : i = 0 := by simp at hi; omega
          subst this; rfl), by simp, by decide, fun h => by cases h⟩
        refine callE_of (putAll_calls off (some ⟨w4.heap.size, 0, none⟩) [5#64] 1 _ hs4'.two.dev hin5 ho (by omega)) ?_
        rintro v w6 ⟨rfl, G6, h6, t6⟩
        have hs6 := hs4'.second h6 t6
        have e2' : ((D.putAll off [5#64]).2 != 0) = true := by rw [bne_iff_ne]; exact e2
        simp -implicitDefEqProofs [go_sem, e2, e2']
        refine body_tmp 2 rfl ?_
        simp -implicitDefEqProofs [go_sem]
        exact fin _ hs6.one.bel
      · have r2' : (off.tmod 8 == 0) = false := by rw [beq_eq_false_iff_ne]; exact r2
        simp -implicitDefEqProofs [go_sem, hc3, r1, r2, r2']
        refine callE_of (put_calls' off 5#64 w3 hs3.one.dev ho (by omega)) ?_
        rintro v w4 ⟨rfl, F4, h4, t4⟩
        have hs4 := hs3.first h4 t4
        have hc4 := (hB1.next hs4.one.bel).cell
        have e1' : ((runS D (putS off 5#64)).2 != 0) = true := by rw [bne_iff_ne]; exact e1
        simp -implicitDefEqProofs [go_sem, hc4, e1, e1']
        have hs4' := hs4.next ((Below.refl w4.heap.size w4).alloc (Nat.le_refl _) (.cells #[.int .u64 5] 28))
        have hB5 := Blk.new w4 #[.int .u64 5] 28
        have hin5 : SlIn .u64 (w4.alloc (.cells #[.int .u64 5] 28)) (some ⟨w4.heap.size, 0, none⟩) [5#64] 1 := ⟨slAt_blk hB5 (fun i hi => by
          have : i = 0 := by simp at hi; omega
          subst this; rfl), by simp, by decide, fun h => by cases h⟩
        refine callE_of (putAll_calls off (some ⟨w4.heap.size, 0, none⟩) [5#64] 1 _ hs4'.two.dev hin5 ho (by omega)) ?_
        rintro v w6 ⟨rfl, G6, h6, t6⟩
        have hs6 := hs4'.second h6 t6
        have e2' : ((D.putAll off [5#64]).2 != 0) = true := by rw [bne_iff_ne]; exact e2
        simp -implicitDefEqProofs [go_sem, e2, e2']
        refine body_tmp 2 rfl ?_
        simp -implicitDefEqProofs [go_sem]
        exact fin _ hs6.one.bel
    · simp -implicitDefEqProofs [go_sem, hc3, r1]
      refine callE_of (put_calls' off 5#64 w3 hs3.one.dev ho (by omega)) ?_
      rintro v w4 ⟨rfl, F4, h4, t4⟩
      have hs4 := hs3.first h4 t4
      have hc4 := (hB1.next hs4.one.bel).cell
      have e1' : ((runS D (putS off 5#64)).2 != 0) = true := by rw [bne_iff_ne]; exact e1
      simp -implicitDefEqProofs [go_sem, hc4, e1, e1']
      have hs4' := hs4.next ((Below.refl w4.heap.size w4).alloc (Nat.le_refl _) (.cells #[.int .u64 5] 28))
      have hB5 := Blk.new w4 #[.int .u64 5] 28
      have hin5 : SlIn .u64 (w4.alloc (.cells #[.int .u64 5] 28)) (some ⟨w4.heap.size, 0, none⟩) [5#64] 1 := ⟨slAt_blk hB5 (fun i hi => by
        have : i = 0 := by simp at hi; omega
        subst this; rfl), by simp, by decide, fun h => by cases h⟩
      refine callE_of (putAll_calls off (some ⟨w4.heap.size, 0, none⟩) [5#64] 1 _ hs4'.two.dev hin5 ho (by omega)) ?_
      rintro v w6 ⟨rfl, G6, h6, t6⟩
      have hs6 := hs4'.second h6 t6
      have e2' : ((D.putAll off [5#64]).2 != 0) = true := by rw [bne_iff_ne]; exact e2
      simp -implicitDefEqProofs [go_sem, e2, e2']
      refine body_tmp 2 rfl ?_
      simp -implicitDefEqProofs [go_sem]
      exact fin _ hs6.one.bel
end Go.Proofs.Ytkljlgahdlgmpaa
