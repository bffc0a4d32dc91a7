/- The laws of crc: their walks. -/
import Derived.Test.YtgdjnginljamoaaDoorCrcWalk
import Derived.Test.YtgdjnginljamoaaDoorDraw
import Derived.Test.YtgdjnginljamoaaDoorVal
namespace Go.Proofs.YtgdjnginljamoaaDoor
open Go Go.RowKit

theorem mixed : Tryd.prog.follows .mixedOrders = true := by kernel_rfl

theorem info_u8 : (Tryd.prog.info? 5).map (fun i => (i.zero, i.size, i.bytes)) = some (some (.int .u8 0), 1, 1) := by kernel_rfl

set_option linter.unusedSimpArgs false in
theorem crcTells_walk (s : BitVec 32) (a : Option Addr) (l : List (BitVec 8)) (cap : Nat) (w : World) (hl : l.length ≤ 9223372036854775807) (hF : Fours w) (hb : BytesAt w a l) :
    Ret Tryd.prog 3 #[.int .u32 (uv s), .slice a l.length cap] w fun v w' => v = .bool true ∧ Below w.heap.size w w' := by
  refine ret_of (args := [_, _]) _ Tryd.func3 rfl Tryd.ntmps3 (by simp) ?_
  simp -implicitDefEqProofs [go_sem]
  refine callE_of (alive_calls w hF) ?_
  rintro v w1 ⟨rfl, bel⟩
  by_cases hbig : (3000 : Int) < (l.length : Int)
  · simp -implicitDefEqProofs [go_sem, hbig]
    refine body_tmp 4 rfl ?_
    simp -implicitDefEqProofs [go_sem]
    exact bel
  · simp -implicitDefEqProofs [go_sem, hbig]
    refine callE_of (next_calls s a l _ cap w1 rfl hl (hF.below bel) (hb.below bel)) ?_
    rintro v w2 ⟨rfl, rfl⟩
    simp -implicitDefEqProofs [go_sem]
    refine callE_of (refNext_calls s a l _ cap w2 rfl hl (hb.below bel)) ?_
    rintro v w3 ⟨rfl, rfl⟩
    simp -implicitDefEqProofs [go_sem]
    refine callE_of (sum_calls a l _ cap w3 rfl hl (hF.below bel) (hb.below bel)) ?_
    rintro v w4 ⟨rfl, rfl⟩
    simp -implicitDefEqProofs [go_sem]
    refine callE_of (refSum_calls a l _ cap w4 rfl hl (hb.below bel)) ?_
    rintro v w5 ⟨rfl, rfl⟩
    simp -implicitDefEqProofs [go_sem]
    refine body_tmp 4 rfl ?_
    simp -implicitDefEqProofs [go_sem]
    exact bel

set_option linter.unusedSimpArgs false in
theorem crcByte_walk (s : BitVec 32) (c d : BitVec 8) (w : World) (hF : Fours w) :
    Ret Tryd.prog 8 #[.int .u32 (uv s), .int .u8 (uv c), .int .u8 (uv d)] w fun v w' => v = .bool true ∧ Below w.heap.size w w' := by
  refine ret_of (args := [_, _, _]) _ Tryd.func8 rfl Tryd.ntmps8 (by simp) ?_
  simp -implicitDefEqProofs [go_sem]
  refine callE_of (alive_calls w hF) ?_
  rintro v w1 ⟨rfl, bel⟩
  simp -implicitDefEqProofs [go_sem]
  have hF1 := hF.below bel
  have b1 := bytesAt_new w1 #[.int .u8 (uv c)] 5 (0, 0) [c] rfl
  have bel1 : Below w1.heap.size w1 (w1.alloc (.cells #[.int .u8 (uv c)] 5)) := (Below.refl _ _).alloc (Nat.le_refl _) _
  refine callE_of (next_calls s _ [c] 1 1 _ rfl (by decide) (hF1.below bel1) b1) ?_
  rintro v w2 ⟨rfl, rfl⟩
  simp -implicitDefEqProofs [go_sem]
  generalize hw2 : w1.alloc (.cells #[.int .u8 (uv c)] 5) = w2 at bel1
  have hF2 := hF1.below bel1
  have b2 := bytesAt_new w2 #[.int .u8 (uv d)] 5 (0, 0) [d] rfl
  have bel2 : Below w2.heap.size w2 (w2.alloc (.cells #[.int .u8 (uv d)] 5)) := (Below.refl _ _).alloc (Nat.le_refl _) _
  have e2 : w1.heap.size + 1 = w2.heap.size := by rw [← hw2]; simp
  rw [e2]
  refine callE_of (next_calls s _ [d] 1 1 _ rfl (by decide) (hF2.below bel2) b2) ?_
  rintro v w3 ⟨rfl, rfl⟩
  have bel3 : Below w.heap.size w (w2.alloc (.cells #[.int .u8 (uv d)] 5)) := bel.trans ((bel1.trans (bel2.mono bel1.size)).mono bel.size)
  have hF3 := hF2.below bel2
  have elaw : ((Crc.next s [c] == Crc.next s [d]) == (c == d)) = true := by
    rw [beq_iff_eq, Bool.eq_iff_iff, beq_iff_eq, beq_iff_eq]; exact Crc.byte_law s c d
  simp -implicitDefEqProofs [go_sem, elaw]
  have h0 := next_calls s none [] 0 0 _ rfl (by decide) hF3 (.inl rfl)
  rw [Crc.next_nil] at h0
  refine callE_of h0 ?_
  rintro v w4 ⟨rfl, rfl⟩
  simp -implicitDefEqProofs [go_sem]
  refine body_tmp 6 rfl ?_
  simp -implicitDefEqProofs [go_sem]
  exact bel3

theorem Fours.drew {w : World} (h : Fours w) : Fours w.drew := h
theorem BytesAt.drew {w : World} {a : Option Addr} {l : List (BitVec 8)} (h : BytesAt w a l) : BytesAt w.drew a l := h
/-- A slice of bytes that came in: as many as its length, and room for more. -/
structure BytesIn (w : World) (a : Option Addr) (l : List (BitVec 8)) (cap : Nat) : Prop where
  at_ : BytesAt w a l
  le : l.length ≤ cap
  max : cap ≤ 9223372036854775807
  nil : a = none → cap = 0

set_option linter.unusedSimpArgs false in
theorem crcZeros_walk (a b c : Option Addr) (la lb lc : List (BitVec 8)) (ca cb cc : Nat) (w : World) (ha : BytesIn w a la ca) (hb : BytesIn w b lb cb) (hc : BytesIn w c lc cc) (hF : Fours w) :
    Ret Tryd.prog 7 #[.slice a la.length ca, .slice b lb.length cb, .slice c lc.length cc] w fun v w' => v = .bool true ∧ Below w.heap.size w w' := by
  refine ret_of (args := [_, _, _]) _ Tryd.func7 rfl Tryd.ntmps7 (by simp) ?_
  simp -implicitDefEqProofs [go_sem]
  refine callE_of (alive_calls w hF) ?_
  rintro v w1 ⟨rfl, bel⟩
  by_cases hbig : (3000 : Int) < (lc.length : Int)
  · simp -implicitDefEqProofs [go_sem, hbig]
    refine body_tmp 6 rfl ?_
    simp -implicitDefEqProofs [go_sem]
    exact bel
  obtain ⟨n, hn, hna, hnb⟩ : ∃ n : Nat, min (la.length : Int) (min lb.length 3000) = n ∧ n ≤ la.length ∧ n ≤ lb.length := ⟨min la.length (min lb.length 3000), by omega, by omega, by omega⟩
  have hna' : (n : Int) ≤ ca := by have := ha.le; omega
  have hnb' : (n : Int) ≤ cb := by have := hb.le; omega
  simp -implicitDefEqProofs [go_sem, hbig, hn]
  refine drawE_still mixed (by decide +kernel) ?_
  simp -implicitDefEqProofs [go_sem, hna', hnb']
  have hF1 := (hF.below bel).drew
  have ha1 := ((ha.at_.below bel).take n).drew
  have hb1 := ((hb.at_.below bel).take n).drew
  refine onStill_call _ (sum_calls a (la.take n) n ca _ (by simp; omega) (by have := ha.max; omega) hF1 ha1) ?_
  simp -implicitDefEqProofs [go_sem, hna', hnb']
  refine onStill_call _ (sum_calls b (lb.take n) n cb _ (by simp; omega) (by have := hb.max; omega) hF1 hb1) ?_
  simp -implicitDefEqProofs [go_sem]
  unfold endE
  have hmk := run_make_n (P := Tryd.prog) Tryd.underlying23 info_u8 rfl .i64 .i64 lc.length (by omega) (by omega)
  simp -implicitDefEqProofs [go_sem, hmk]
  have bz := bytesAt_new w1 (Array.replicate lc.length (.int .u8 0)) 5 (0, 0) (List.replicate lc.length 0#8) (by simp [uv_zero])
  have bel1 : Below w1.heap.size w1 (w1.alloc (.cells (Array.replicate lc.length (.int .u8 0)) 5)).drew := ((Below.refl _ _).alloc (Nat.le_refl _) _).drew
  generalize hw2 : (w1.alloc (.cells (Array.replicate lc.length (.int .u8 0)) 5)).drew = w2 at bel1
  replace bz : BytesAt w2 (some ⟨w1.heap.size, 0, none⟩) (List.replicate lc.length 0#8) := by rw [← hw2]; exact bz.drew
  have hF2 := (hF.below bel).below bel1
  have hc2 := (hc.at_.below bel).below bel1
  have lc63 : lc.length ≤ 9223372036854775807 := by omega
  refine callE_of (next_calls _ c lc _ cc w2 rfl lc63 hF2 hc2) ?_
  rintro v w3 ⟨rfl, rfl⟩
  simp -implicitDefEqProofs [go_sem]
  refine callE_of (next_calls _ c lc _ cc w3 rfl lc63 hF2 hc2) ?_
  rintro v w4 ⟨rfl, rfl⟩
  simp -implicitDefEqProofs [go_sem]
  refine callE_of (next_calls _ _ (List.replicate lc.length 0#8) _ _ w4 (by simp) lc63 hF2 bz) ?_
  rintro v w5 ⟨rfl, rfl⟩
  simp -implicitDefEqProofs [go_sem]
  refine callE_of (next_calls _ _ (List.replicate lc.length 0#8) _ _ w5 (by simp) lc63 hF2 bz) ?_
  rintro v w6 ⟨rfl, rfl⟩
  generalize Crc.next 0#32 (la.take n) = x
  generalize Crc.next 0#32 (lb.take n) = y
  have e1 := Crc.zeros_law x y lc
  have e2 : ((Crc.next x lc == Crc.next y lc) == (x == y)) = true := by
    rw [beq_iff_eq, Bool.eq_iff_iff, beq_iff_eq, beq_iff_eq]
    exact ⟨Crc.next_inj, fun h => by rw [h]⟩
  simp -implicitDefEqProofs [go_sem, e1]
  refine callE_of (next_calls _ c lc _ cc w6 rfl lc63 hF2 hc2) ?_
  rintro v w7 ⟨rfl, rfl⟩
  simp -implicitDefEqProofs [go_sem]
  refine callE_of (next_calls _ c lc _ cc w7 rfl lc63 hF2 hc2) ?_
  rintro v w8 ⟨rfl, rfl⟩
  simp -implicitDefEqProofs [go_sem, e2]
  refine body_tmp 6 rfl ?_
  simp -implicitDefEqProofs [go_sem]
  exact bel.trans (bel1.mono bel.size)

/-- The bytes so far exclusive or, zeros behind them. -/
def sumRow (la lb lc : List (BitVec 8)) (k n : Nat) : Array Value :=
  ((List.range n).map fun j => Value.int .u8 (uv (if j < k then la.getD j 0#8 ^^^ lb.getD j 0#8 ^^^ lc.getD j 0#8 else 0#8))).toArray
theorem sumRow_zero (la lb lc : List (BitVec 8)) (n : Nat) : sumRow la lb lc 0 n = Array.replicate n (.int .u8 0) := by
  apply Array.ext
  · simp [sumRow]
  · intro i h1 h2
    simp [sumRow, uv_zero]
theorem sumRow_set (la lb lc : List (BitVec 8)) (k n : Nat) (_h : k < n) :
    (sumRow la lb lc k n).setIfInBounds k (.int .u8 (uv (la.getD k 0#8 ^^^ lb.getD k 0#8 ^^^ lc.getD k 0#8))) = sumRow la lb lc (k + 1) n := by
  apply Array.ext
  · simp [sumRow]
  · intro i h1 h2
    simp only [sumRow, List.setIfInBounds_toArray, List.getElem_toArray, List.getElem_set, List.getElem_map, List.getElem_range]
    by_cases hi : k = i
    · subst hi; rw [if_pos rfl, if_pos (by omega)]
    · rw [if_neg hi]
      by_cases hk : i < k
      · rw [if_pos hk, if_pos (by omega)]
      · rw [if_neg hk, if_neg (by omega)]
theorem sumRow_get (la lb lc : List (BitVec 8)) (k n : Nat) (h : k < n) : ∃ v, (sumRow la lb lc k n)[k]? = some v := ⟨_, by simp [sumRow, h]; rfl⟩
theorem sumRow_all (la lb lc : List (BitVec 8)) (n : Nat) (ha : n ≤ la.length) (hb : n ≤ lb.length) (hc : n ≤ lc.length) :
    sumRow la lb lc n n = ((Crc.xors (Crc.xors (la.take n) (lb.take n)) (lc.take n)).map fun x => Value.int .u8 (uv x)).toArray := by
  apply Array.ext
  · simp [sumRow, Crc.xors]; omega
  · intro i h1 h2
    have hi : i < n := by simpa [sumRow] using h1
    have e1 : i < la.length := by omega
    have e2 : i < lb.length := by omega
    have e3 : i < lc.length := by omega
    simp [sumRow, Crc.xors, hi, e1, e2, e3]

set_option linter.unusedSimpArgs false in
theorem crcSums_walk (a b c : Option Addr) (la lb lc : List (BitVec 8)) (ca cb cc : Nat) (w : World) (ha : BytesIn w a la ca) (hb : BytesIn w b lb cb) (hc : BytesIn w c lc cc) (hF : Fours w) :
    Ret Tryd.prog 6 #[.slice a la.length ca, .slice b lb.length cb, .slice c lc.length cc] w fun v w' => v = .bool true ∧ Below w.heap.size w w' := by
  obtain ⟨n, hn, hna, hnb, hnc, hn3⟩ : ∃ n : Nat, min (la.length : Int) (min (lb.length : Int) (min (lc.length : Int) 3000)) = n ∧ n ≤ la.length ∧ n ≤ lb.length ∧ n ≤ lc.length ∧ n ≤ 3000 := ⟨min la.length (min lb.length (min lc.length 3000)), by omega, by omega, by omega, by omega, by omega⟩
  have hna' : (n : Int) ≤ ca := by have := ha.le; omega
  have hnb' : (n : Int) ≤ cb := by have := hb.le; omega
  have hnc' : (n : Int) ≤ cc := by have := hc.le; omega
  have hmk := run_make_n (P := Tryd.prog) Tryd.underlying23 info_u8 rfl .i64 .i64 n (by omega) (by omega)
  refine ret_of (args := [_, _, _]) _ Tryd.func6 rfl Tryd.ntmps6 (by simp) ?_
  simp -implicitDefEqProofs [go_sem]
  refine callE_of (alive_calls w hF) ?_
  rintro v w1 ⟨rfl, bel⟩
  simp -implicitDefEqProofs [go_sem, hn, hmk]
  refine wpE_loop (fun e' w' => ∃ k : Nat, k ≤ n ∧ e' 0 = .slice a la.length ca ∧ e' 1 = .slice b lb.length cb ∧ e' 2 = .slice c lc.length cc ∧ e' 7 = .int .i64 n ∧
    e' 8 = .slice (some ⟨w1.heap.size, 0, none⟩) n n ∧ e' 22 = .int .i64 n ∧ e' 23 = .int .i64 k ∧ Blk w' w1.heap.size (sumRow la lb lc k n) 5 ∧ Below w1.heap.size w1 w')
    (fun e' _ => n - (intOf (e' 23)).toNat) ?_ ?_
  · refine ⟨0, Nat.zero_le _, ?_⟩
    simp -implicitDefEqProofs [go_sem]
    rw [sumRow_zero]
    exact ⟨Blk.new _ _ _, (Below.refl _ _).alloc (Nat.le_refl _) _⟩
  · rintro e' w' ⟨k, hk, h0, h1, h2, h7, h8, h22, h23, hB, bel1⟩
    by_cases hlt : k < n
    · have hw := IntWalk.i64_in ((k : Int) + 1) (by omega)
      have hka : k < la.length := by omega
      have hkb : k < lb.length := by omega
      have hkc : k < lc.length := by omega
      obtain rfl | ⟨ba, oa, rfl, ga⟩ := (ha.at_.below bel).below bel1
      · simp at hka
      obtain rfl | ⟨bb, ob, rfl, gb⟩ := (hb.at_.below bel).below bel1
      · simp at hkb
      obtain rfl | ⟨bc, oc, rfl, gc⟩ := (hc.at_.below bel).below bel1
      · simp at hkc
      replace ga := ga k hka
      replace gb := gb k hkb
      replace gc := gc k hkc
      obtain ⟨v0, hv0⟩ := sumRow_get la lb lc k n hlt
      have gx := (hB.cell k).trans hv0
      have gf := hB.thaw k
      simp -implicitDefEqProofs [go_sem, h0, h1, h2, h7, h8, h22, h23, hlt]
      refine drawE_tail 17 mixed (by decide +kernel) (by simp only [List.take_succ_cons, List.take_zero]; rfl) (by simp only [List.drop_succ_cons, List.drop_zero]; rfl) ?_
      simp -implicitDefEqProofs [go_sem, h0, h1, h2, h7, h8, h22, h23, hlt, hka, hkb, hkc, ga, gb, gc]
      unfold endE
      simp -implicitDefEqProofs [go_sem, gx, gf, hw, h23]
      refine goE_round ⟨k + 1, by omega, ?_⟩ ?_
      · simp -implicitDefEqProofs [go_sem, h0, h1, h2, h7, h8, h22]
        have hB2 := (hB.drew.set k (.int .u8 (uv (la.getD k 0#8 ^^^ lb.getD k 0#8 ^^^ lc.getD k 0#8))))
        rw [sumRow_set _ _ _ _ _ hlt] at hB2
        simp [hka, hkb, hkc] at hB2
        exact ⟨hB2, (bel1.drew.setCell (Nat.le_refl _) _)⟩
      · simp -implicitDefEqProofs [go_sem, intOf, h23]; omega
    · have hk' : k = n := by omega
      subst hk'
      have hF1 := ((hF.below bel).below bel1)
      have ha1 := ((ha.at_.below bel).below bel1).take k
      have hb1 := ((hb.at_.below bel).below bel1).take k
      have hc1 := ((hc.at_.below bel).below bel1).take k
      have hx1 : BytesAt w' (some ⟨w1.heap.size, 0, none⟩) (Crc.xors (Crc.xors (la.take k) (lb.take k)) (lc.take k)) := by
        refine Or.inr ⟨_, _, rfl, fun i hi => ?_⟩
        rw [Nat.zero_add, hB.cell, sumRow_all _ _ _ _ hna hnb hnc]
        simp [hi]
      have hxl : (Crc.xors (Crc.xors (la.take k) (lb.take k)) (lc.take k)).length = k := by simp [Crc.xors]; omega
      have elaw := Crc.sums_law 0#32 0#32 0#32 (la.take k) (lb.take k) (lc.take k) (by simp; omega) (by simp; omega)
      simp -implicitDefEqProofs [go_sem, h0, h1, h2, h7, h8, h22, h23]
      refine drawE_still mixed (by decide +kernel) ?_
      simp -implicitDefEqProofs [go_sem, h0, h1, h2, h7, h8, h22, h23]
      refine onStill_call _ (sum_calls _ _ k k _ hxl (by omega) hF1.drew hx1.drew) ?_
      simp -implicitDefEqProofs [go_sem, h0, h1, h2, h7, h8, hna', hnb', hnc']
      refine onStill_call _ (sum_calls a (la.take k) k ca _ (by simp; omega) (by omega) hF1.drew ha1.drew) ?_
      simp -implicitDefEqProofs [go_sem, h0, h1, h2, h7, h8, hna', hnb', hnc']
      refine onStill_call _ (sum_calls b (lb.take k) k cb _ (by simp; omega) (by omega) hF1.drew hb1.drew) ?_
      simp -implicitDefEqProofs [go_sem, h0, h1, h2, h7, h8, hna', hnb', hnc']
      refine onStill_call _ (sum_calls c (lc.take k) k cc _ (by simp; omega) (by omega) hF1.drew hc1.drew) ?_
      have e0 : (0#32 ^^^ 0#32 ^^^ 0#32) = 0#32 := by decide
      rw [e0] at elaw
      simp -implicitDefEqProofs [go_sem, elaw]
      unfold endE
      simp -implicitDefEqProofs [go_sem]
      refine body_tmp 6 rfl ?_
      simp -implicitDefEqProofs [go_sem]
      exact (bel.trans (bel1.mono bel.size)).drew
end Go.Proofs.YtgdjnginljamoaaDoor
