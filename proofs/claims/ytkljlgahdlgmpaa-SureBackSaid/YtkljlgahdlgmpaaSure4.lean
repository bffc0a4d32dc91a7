/- Get, Clear: walks. -/
import Derived.Test.YtkljlgahdlgmpaaSure3
namespace Go.Proofs.Ytkljlgahdlgmpaa
open Go Go.RowKit

def wordsAt (D : NM.Dv) (o n : Nat) : List (BitVec 64) := (List.range n).map fun i => D.word (o + 8 * i)
theorem wordsAt_len (D : NM.Dv) (o n : Nat) : (wordsAt D o n).length = n := by simp [wordsAt]
def NM.Dv.get (D : NM.Dv) (off many : Int) : List (BitVec 64) × Int :=
  if D.within off many = 0 then (if many = 0 ∨ D.down = false then (wordsAt D off.toNat many.toNat, 0) else ([], 12)) else ([], D.within off many)
theorem within_nat {D : NM.Dv} {off many : Int} (hp : 0 < D.ls.length) (h : D.within off many = 0) : ∃ n : Nat, many = (n : Int) := by
  unfold NM.Dv.within at h
  rw [if_neg (by omega)] at h
  split at h
  · cases h
  · split at h
    · cases h
    · rename_i h2
      exact ⟨many.toNat, by have : ¬ many < 0 := fun h => h2 (.inl h); omega⟩
theorem load_in {D : NM.Dv} (hp : 0 < D.ls.length) {o : Nat} (h8 : o % 8 = 0) (hs : o < D.size) : D.load (o : Int) = if D.down = true then (0#64, 12) else (D.word o, 0) := by
  have hl0 : ¬ D.ls.length = 0 := by omega
  by_cases hd : D.down = true
  · have ha : D.ask (o : Int) 8 = 12 := by unfold NM.Dv.ask; rw [if_neg hl0, if_pos hd]
    rw [if_pos hd]; unfold NM.Dv.load; rw [ha]; rfl
  · rw [if_neg hd]
    have ha : D.ask (o : Int) 8 = 0 := by
      unfold NM.Dv.ask; rw [if_neg hl0, if_neg hd, if_neg]
      rintro (h | h | h)
      · omega
      · omega
      · rw [Int.tmod_eq_emod_of_nonneg (by omega)] at h; omega
    unfold NM.Dv.load; rw [if_pos ha, Int.toNat_natCast]

section
set_option linter.unusedSimpArgs false
variable {p : Nat} {F : Nat → Prop} {D : NM.Dv}
set_option maxHeartbeats 4000000 in
set_option maxRecDepth 10000 in
theorem get_calls' (off many : Int) (w0 : World) (h : DevB w0 p F D) (ho : I64 off) (hm : I64 many) :
    Ret Try.prog 40 #[.pointer (some ⟨p, 0, none⟩), .int .i64 off, .int .i64 many] w0 fun v w' => Below w0.heap.size w0 w' ∧
      ∃ a c, v = .tuple #[.slice a (D.get off many).1.length c, .int .i64 (D.get off many).2] ∧ SlIn .u64 w' a (D.get off many).1 c ∧ (∀ y, a = some y → w0.heap.size ≤ y.block ∧ y.block < w'.heap.size) := by
  have bel0 := Below.refl w0.heap.size w0
  have hpos := h.pos
  have hmost := h.ok.most
  refine ret_of (args := [_, _, _]) _ Try.func40 rfl Try.ntmps40 (by simp) ?_
  simp -implicitDefEqProofs [go_sem]
  refine callE_of (within_calls off many w0 h ho hm) ?_
  rintro v w1 ⟨rfl, rfl⟩
  have nilIn : ∀ w : World, SlIn .u64 w none ([] : List (BitVec 64)) 0 := fun w => ⟨.inl rfl, Nat.le_refl _, by decide, fun _ => rfl⟩
  by_cases hw : ¬ D.within off many = 0
  · have hw' : (D.within off many != 0) = true := by rw [bne_iff_ne]; exact hw
    have hg : D.get off many = ([], D.within off many) := by unfold NM.Dv.get; rw [if_neg hw]
    simp -implicitDefEqProofs [go_sem, hw, hw']
    refine body_tmp2 6 7 rfl ?_
    rw [hg]
    simp -implicitDefEqProofs [go_sem]
    exact ⟨bel0, none, 0, ⟨rfl, rfl⟩, nilIn _, fun y hy => by cases hy⟩
  replace hw : D.within off many = 0 := by simpa using hw
  obtain ⟨n, rfl⟩ := within_nat hpos hw
  obtain ⟨o, rfl, ho8, hos⟩ := within_ok hpos hw
  have hsz : D.size ≤ 65536 := by unfold NM.Dv.size; omega
  have hn : n ≤ 8192 := by omega
  have hmk := fun w => run_make_n (P := Try.prog) (t := 73) (e := 28) (z := .int .u64 0) (bytes := 8) Try.underlying73 (by kernel_rfl) rfl .i64 .i64 n (by omega) (by omega) w
  have hg : D.get (o : Int) (n : Int) = if n = 0 ∨ D.down = false then (wordsAt D o n, 0) else ([], 12) := by
    unfold NM.Dv.get; rw [if_pos hw, Int.toNat_natCast, Int.toNat_natCast]
    by_cases h0 : n = 0
    · subst h0; simp
    · simp only [h0, false_or, show ¬ ((n : Int) = 0) by omega]
  rw [hg]
  simp -implicitDefEqProofs [go_sem, hw, hmk]
  have bel1 := bel0
  have hFlt := h.lt
  generalize hw2 : World.alloc w1 _ = w2 at *
  obtain ⟨hB2, b2, sz2⟩ := new_facts hw2
  have bel2 := bel1.trans (b2.mono bel1.size)
  replace h := h.next b2
  refine wpE_loop (fun e' w' => ∃ (k : Nat) (C : Array Value), k ≤ n ∧ (0 < k → D.down = false) ∧ e' 0 = .pointer (some ⟨p, 0, none⟩) ∧ e' 1 = .int .i64 o ∧ e' 9 = .slice (some ⟨w1.heap.size, 0, none⟩) n n ∧ e' 22 = .slice (some ⟨w1.heap.size, 0, none⟩) n n ∧ e' 23 = .int .i64 n ∧ e' 24 = .int .i64 k ∧ Blk w' w1.heap.size C 28 ∧ C.size = n ∧ (∀ i, i < k → C[i]? = some (.int .u64 (uv (D.word (o + 8 * i))))) ∧ DevB w' p F D ∧ Below w1.heap.size w1 w') (fun e' _ => n - (intOf (e' 24)).toNat) ?_ ?_
  · refine ⟨0, Array.replicate n (.int .u64 0), by omega, fun h => by omega, ?_⟩
    simp -implicitDefEqProofs [go_sem]
    exact ⟨hB2, h, bel2⟩
  · rintro e' w3 ⟨k, C, hk, hdn, g0, g1, g9, g22, g23, g24, hB, hCs, hC, h3, b3⟩
    by_cases hlt : k < n
    · have hlt' : (k : Int) < n := by omega
      have hwk := IntWalk.i64_in ((k : Int) + 1) (by omega)
      have hw1 := IntWalk.i64_in (8 * (k : Int)) (by omega)
      have hw2 := IntWalk.i64_in ((o : Int) + 8 * (k : Int)) (by omega)
      have hld := load_in hpos (o := o + 8 * k) (by omega) (by omega)
      rw [show ((o + 8 * k : Nat) : Int) = (o : Int) + 8 * (k : Int) by omega] at hld
      have hCk : C[k]? = some (C[k]'(by omega)) := by simp [hCs, hlt]
      simp -implicitDefEqProofs [go_sem, g0, g1, g9, g22, g23, g24, hlt, hlt', hw1, hw2]
      refine callE_of (loadB ((o : Int) + 8 * (k : Int)) w3 h3 (by unfold I64; omega)) ?_
      rintro v w4 ⟨rfl, rfl⟩
      rw [hld]
      by_cases hd : D.down = true
      · rw [if_pos hd]
        simp -implicitDefEqProofs [go_sem, g0, g1, g9, g22, g23, g24]
        refine body_tmp2 6 7 rfl ?_
        rw [if_neg (by rintro (h | h); · omega
                       · rw [hd] at h; cases h)]
        simp -implicitDefEqProofs [go_sem]
        exact ⟨b3, none, 0, ⟨rfl, rfl⟩, nilIn _, fun y hy => by cases hy⟩
      · rw [if_neg hd]
        have hB' := hB.set k (.int .u64 (uv (D.word (o + 8 * k))))
        have hmS := (Mod.refl (fun j => j = w1.heap.size) w4).setCell (a := ⟨w1.heap.size, k, none⟩) (.inl rfl) (.int .u64 (uv (D.word (o + 8 * k))))
        have h4 : DevB (w4.setCell ⟨w1.heap.size, k, none⟩ (.int .u64 (uv (D.word (o + 8 * k))))) p F D := by
          obtain ⟨lb, S, hA, hF, hok⟩ := h3
          exact ⟨lb, S, hA.mod hmS (fun j hj e => by rw [← hF] at hj; have := hFlt j hj; omega), hF, hok⟩
        have b4 := b3.trans (hmS.below (B := w1.heap.size) b3.size (fun j hj => by omega))
        simp -implicitDefEqProofs [go_sem, g0, g1, g9, g22, g23, g24, hB.cell, hB.thaw, hCk, hlt, hlt', hwk]
        refine goE_round ⟨k + 1, C.setIfInBounds k (.int .u64 (uv (D.word (o + 8 * k)))), by omega, fun _ => by simpa using hd, ?_⟩ ?_
        · simp -implicitDefEqProofs [go_sem, g0, g1, g9, g22, g23]
          refine ⟨hB', hCs, fun i hi => ?_, h4, b4⟩
          rw [Array.getElem?_setIfInBounds]
          by_cases e : k = i
          · subst e; rw [if_pos rfl, if_pos (by omega)]
          · rw [if_neg e]; exact hC i (by omega)
        · simp -implicitDefEqProofs [go_sem, intOf, g24, hwk]; omega
    · have hk' : k = n := by omega
      subst hk'
      have hcond : k = 0 ∨ D.down = false := by
        by_cases h0 : k = 0
        · exact .inl h0
        · exact .inr (hdn (by omega))
      rw [if_pos hcond]
      simp -implicitDefEqProofs [go_sem, g0, g1, g9, g22, g23, g24]
      refine body_tmp2 6 7 rfl ?_
      simp -implicitDefEqProofs [go_sem, wordsAt_len]
      refine ⟨b3, some ⟨w1.heap.size, 0, none⟩, k, ⟨rfl, rfl⟩, ⟨slAt_blk hB (fun i hi => ?_), by rw [wordsAt_len]; omega, by omega, fun h => by cases h⟩, fun y hy => ?_⟩
      · rw [wordsAt_len] at hi
        rw [hC i hi]; simp [wordsAt]
      · obtain rfl : _ = y := Option.some.inj hy
        exact ⟨Nat.le_refl _, hB.lt⟩

set_option maxHeartbeats 1000000 in
theorem clear_calls (off : Int) (w0 : World) (h : DevB w0 p F D) (ho : off = 0 ∨ off = 8) (hc : D.steps + 1000000 < 1099511627776) :
    Ret Try.prog 56 #[.pointer (some ⟨p, 0, none⟩), .int .i64 off, .int .i64 1] w0 fun v w' => v = .int .i64 (if off = 0 then (D.putAll 0 (List.replicate 8 0#64)).2 else 2) ∧ ∃ F' D', DevB w' p F' D' ∧ Turn w0 F w' F' := by
  have bel0 := Below.refl w0.heap.size w0
  have hmk := fun w => run_make_n (P := Try.prog) (t := 73) (e := 28) (z := .int .u64 0) (bytes := 8) Try.underlying73 (by kernel_rfl) rfl .i64 .i64 8 (by omega) (by omega) w
  have hmk' : ∀ w, (Instr.makeSlice 73 (.int .i64 8) (.int .i64 8)).run Try.prog w = _ := hmk
  have hw8 : IntKind.i64.wrap 8 = 8 := by decide
  refine ret_of (args := [_, _, _]) _ Try.func56 rfl Try.ntmps56 (by simp) ?_
  rcases ho with rfl | rfl
  · simp -implicitDefEqProofs [go_sem, hmk', hw8]
    generalize hw1 : World.alloc w0 _ = w1 at *
    obtain ⟨hB1, b1, sz1⟩ := new_facts hw1
    have bel1 := bel0.trans (b1.mono bel0.size)
    replace h := h.next b1
    have hin : SlIn .u64 w1 (some ⟨w0.heap.size, 0, none⟩) (List.replicate 8 0#64) 8 := ⟨slAt_blk hB1 (fun i hi => by
      have hi' : i < 8 := by simpa using hi
      have e : (List.replicate 8 0#64)[i] = 0#64 := List.getElem_replicate ..
      rw [e]; simp [hi', show uv 0#64 = 0 from rfl]), by simp, by decide, fun h => by cases h⟩
    have hp := putAll_calls 0 (some ⟨w0.heap.size, 0, none⟩) (List.replicate 8 0#64) 8 w1 h hin (by unfold I64; omega) hc
    rw [List.length_replicate] at hp
    refine callE_of hp ?_
    rintro v w2 ⟨rfl, F2, h2, t2⟩
    simp -implicitDefEqProofs [go_sem]
    refine body_tmp 6 rfl ?_
    simp -implicitDefEqProofs [go_sem]
    exact ⟨F2, ⟨_, h2⟩, (Turn.of bel1).trans t2⟩
  · simp -implicitDefEqProofs [go_sem]
    refine body_tmp 6 rfl ?_
    simp -implicitDefEqProofs [go_sem]
    exact ⟨F, ⟨D, h⟩, Turn.refl _ _⟩
end
end Go.Proofs.Ytkljlgahdlgmpaa
