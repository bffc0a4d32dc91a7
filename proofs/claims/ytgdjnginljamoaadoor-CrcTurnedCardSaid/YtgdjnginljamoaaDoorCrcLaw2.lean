/- Two more laws of crc: their walks. -/
import Derived.Test.YtgdjnginljamoaaDoorCrcLaw
import Derived.Test.YtgdjnginljamoaaDoorMem
namespace Go.Proofs.YtgdjnginljamoaaDoor
open Go Go.RowKit

theorem shr_bit (y : BitVec 32) (i : Nat) : (y >>> i &&& 1#32 == 1#32) = y.getLsbD i := by
  rw [Bool.eq_iff_iff, beq_iff_eq, BitVec.and_one_eq_setWidth_ofBool_getLsbD]
  rw [BitVec.getLsbD_ushiftRight, Nat.add_zero]
  cases y.getLsbD i <;> decide

/-- The bytes as cells. -/
def cellsOf8 (l : List (BitVec 8)) : List Value := l.map fun x => .int .u8 (uv x)
theorem cellsOf8_length (l : List (BitVec 8)) : (cellsOf8 l).length = l.length := by simp [cellsOf8]
theorem BytesAt.src {w : World} {a : Option Addr} {l : List (BitVec 8)} (h : BytesAt w a l) : SrcAt w a (cellsOf8 l) := by
  rcases h with rfl | ⟨b, off, rfl, hc⟩
  · cases a with
    | none => exact .inl ⟨rfl, rfl⟩
    | some x => exact .inr ⟨x, rfl, fun j u hu => by simp [cellsOf8] at hu⟩
  · refine .inr ⟨_, rfl, fun j u hu => ?_⟩
    rw [Addr.add_lit]
    have hj : j < l.length := by
      rcases Nat.lt_or_ge j l.length with h' | h'
      · exact h'
      · rw [List.getElem?_eq_none (by rw [cellsOf8_length]; exact h')] at hu; cases hu
    rw [hc j hj]
    simp [cellsOf8, hj] at hu
    rw [hu]

set_option linter.unusedSimpArgs false in
theorem crcTurned_walk (a : Option Addr) (l : List (BitVec 8)) (cap : Nat) (at_ : BitVec 16) (y : BitVec 32) (w : World) (ha : BytesIn w a l cap) (hF : Fours w) :
    Ret Tryd.prog 5 #[.slice a l.length cap, .int .u16 (uv at_), .int .u32 (uv y)] w fun v w' => v = .bool true ∧ Below w.heap.size w w' := by
  refine ret_of (args := [_, _, _]) _ Tryd.func5 rfl Tryd.ntmps5 (by simp) ?_
  simp -implicitDefEqProofs [go_sem]
  refine callE_of (alive_calls w hF) ?_
  rintro v w1 ⟨rfl, bel⟩
  by_cases hbig : (3000 : Int) < (l.length : Int)
  · simp -implicitDefEqProofs [go_sem, hbig]
    refine body_tmp 6 rfl ?_
    simp -implicitDefEqProofs [go_sem]
    exact bel
  by_cases hsmall : (l.length : Int) < 4
  · simp -implicitDefEqProofs [go_sem, hbig, hsmall]
    refine body_tmp 6 rfl ?_
    simp -implicitDefEqProofs [go_sem]
    exact bel
  by_cases hy : y = 0#32
  · subst hy
    simp -implicitDefEqProofs [go_sem, hbig, hsmall]
    refine body_tmp 6 rfl ?_
    simp -implicitDefEqProofs [go_sem]
    exact bel
  have hy' : (y == 0#32) = false := by rw [beq_eq_false_iff_ne]; exact hy
  have hc0 : a = none → cap = 0 := fun h => ha.nil h
  obtain ⟨a', cap', w2, hr, hown, hgr⟩ := run_append1 (P := Tryd.prog) w1.heap.size 23 Tryd.underlying23 info_u8 rfl (World.ownsRow_nil w1 _ _ _) (a2 := a) (c2 := cap) (cellsOf8_length l) (ha.at_.below bel).src hc0
    (fun u hu => by simp [cellsOf8] at hu; obtain ⟨x, _, rfl⟩ := hu; rfl) (by omega) (by omega) (Nat.le_refl _)
  have e0 : 0 + l.length = l.length := Nat.zero_add _
  rw [e0, List.nil_append] at hown
  rw [e0] at hr
  have bel2 : Below w1.heap.size w1 w2 := (Below.refl _ _).grown hgr (Nat.le_refl _) (fun k hk => by cases hk)
  have hk0 : IntKind.i64.wrap (8 * (l.length : Int)) = 8 * l.length := IntWalk.i64_in _ (by omega)
  have hk1 : IntKind.i64.wrap (8 * (l.length : Int) - 31) = ((8 * l.length - 31 : Nat) : Int) := by rw [IntWalk.i64_in _ (by omega)]; omega
  have hk2 : IntKind.i64.wrap (uv at_) = (at_.toNat : Int) := by have := at_.isLt; rw [uv_def]; exact IntWalk.i64_in _ (by omega)
  obtain ⟨M, hM, hM0, hM1⟩ : ∃ M : Nat, 8 * l.length - 31 = M ∧ ¬ M = 0 ∧ M + 31 = 8 * l.length := ⟨_, rfl, by omega, by omega⟩
  have hk3 : ((at_.toNat : Int)).tmod (M : Int) = ((at_.toNat % M : Nat) : Int) := (Int.ofNat_tmod _ _).symm
  obtain ⟨k, hk, hk32⟩ : ∃ k : Nat, at_.toNat % M = k ∧ k + 32 ≤ 8 * l.length := ⟨_, rfl, by have := Nat.mod_lt at_.toNat (show 0 < M by omega); omega⟩
  rw [hM] at hk1
  rw [hk] at hk3
  have hF2 := (hF.below bel).below bel2
  have ha2 := (ha.at_.below bel).below bel2
  obtain ⟨_, ⟨_, h0⟩ | ⟨g, cap2, cur, hv, hg, hblk, hcap, _, hsz, htake⟩⟩ := hown
  · omega
  simp only [Value.slice.injEq] at hv
  obtain ⟨rfl, _, rfl⟩ := hv
  have hblk : Blk w2 g cur 5 := hblk
  rw [Nat.mul_one] at hsz htake
  simp -implicitDefEqProofs [go_sem, hbig, hsmall, hy', hr, hk0, hk1, hk2, hM0, hk3]
  refine wpE_loop (fun e' w' => ∃ (m : Nat) (C : Array Value), m ≤ 32 ∧ e' 0 = .slice a l.length cap ∧ e' 2 = .int .u32 (uv y) ∧ e' 7 = .slice (some ⟨g, 0, none⟩) l.length cap' ∧ e' 8 = .int .i64 k ∧
    e' 33 = .int .i64 m ∧ Blk w' g C 5 ∧ C.toList.take l.length = cellsOf8 (Crc.turn l k y m) ∧ Below w1.heap.size w1 w') (fun e' _ => 32 - (intOf (e' 33)).toNat) ?_ ?_
  · refine ⟨0, cur, by omega, ?_⟩
    simp -implicitDefEqProofs [go_sem]
    exact ⟨hblk, htake, bel2⟩
  · rintro e' w' ⟨m, C, hm, g0, g2, g7, g8, g33, hB, hC, bel3⟩
    by_cases hlt : m < 32
    · have hlt' : (m : Int) < 32 := by omega
      have hw := IntWalk.i64_in ((m : Int) + 1) (by omega)
      simp -implicitDefEqProofs [go_sem, g0, g2, g7, g8, g33, hlt', hw, shr_bit]
      have hq : (k + m) / 8 < l.length := by omega
      have hwk : IntKind.i64.wrap ((k : Int) + m) = ((k + m : Nat) : Int) := by rw [IntWalk.i64_in _ (by omega)]; rfl
      have hwq : IntKind.i64.wrap (((k + m : Nat) : Int) / 8) = (((k + m) / 8 : Nat) : Int) := by
        rw [IntWalk.i64_in _ (by omega)]; omega
      have hwr : ((k + m : Nat) : Int).tmod 8 = (((k + m) % 8 : Nat) : Int) := by rw [Int.tmod_eq_emod_of_nonneg (by omega)]; omega
      refine condE_part (fun hbit => ?_) (fun hbit => ?_)
      · have gx : w'.cell? ⟨g, (k + m) / 8, none⟩ = some (.int .u8 (uv ((Crc.turn l k y m).getD ((k + m) / 8) 0#8))) := by
          rw [hB.cell]
          have h1 := congrArg (fun z : List Value => z[(k + m) / 8]?) hC
          simp only [List.getElem?_take, hq, if_true, Array.getElem?_toList] at h1
          rw [h1]
          have hlen := Crc.turn_length l k y m
          simp [cellsOf8, hlen, hq]
        have gf := hB.thaw ((k + m) / 8)
        generalize hqq : (k + m) / 8 = Q at *
        generalize hrr : (k + m) % 8 = R at *
        generalize hss : k + m = S at *
        try simp -implicitDefEqProofs [go_sem, g0, g2, g7, g8, g33, hlt', hw]
        refine drawE_tail 14 mixed (by decide +kernel) (by simp only [List.take_succ_cons, List.take_zero]; rfl) (by simp only [List.drop_succ_cons, List.drop_zero]; rfl) ?_
        simp -implicitDefEqProofs [go_sem, g0, g2, g7, g8, g33, hlt', hw, hwk, hwq, hwr, hq, gx]
        unfold endE
        simp -implicitDefEqProofs [go_sem, gx, gf, hw, g33]
        refine goE_round ⟨m + 1, C.setIfInBounds Q (.int .u8 (uv ((Crc.turn l k y m).getD Q 0#8 ^^^ (1#8 <<< R)))), by omega, ?_⟩ ?_
        · simp -implicitDefEqProofs [go_sem, g0, g2, g7, g8]
          refine ⟨hB.drew.set _ _, ?_, (bel3.drew.setCell hg _)⟩
          have e1 : Crc.turn l k y (m + 1) = (Crc.turn l k y m).set Q ((Crc.turn l k y m).getD Q 0#8 ^^^ (1#8 <<< R)) := by
            conv => lhs; unfold Crc.turn
            rw [if_pos hbit, hss, hqq, hrr]
          rw [e1]
          unfold cellsOf8 at hC ⊢
          rw [List.map_set, ← hC]
          simp [List.take_set]
        · simp -implicitDefEqProofs [go_sem, intOf, g33]; omega
      · try simp -implicitDefEqProofs [go_sem, g0, g2, g7, g8, g33, hlt', hw]
        refine goE_round ⟨m + 1, C, by omega, ?_⟩ ?_
        · simp -implicitDefEqProofs [go_sem, g0, g2, g7, g8]
          exact ⟨hB, by unfold Crc.turn; rw [if_neg (by rw [hbit]; simp)]; exact hC, bel3⟩
        · simp -implicitDefEqProofs [go_sem, intOf, g33]; omega
    · have hm32 : m = 32 := by omega
      subst hm32
      have hF3 := (hF.below bel).below bel3
      have ha3 := (ha.at_.below bel).below bel3
      have hc3 : BytesAt w' (some ⟨g, 0, none⟩) (Crc.turn l k y 32) := by
        refine Or.inr ⟨_, _, rfl, fun i hi => ?_⟩
        rw [Nat.zero_add, hB.cell]
        have hi' : i < l.length := by rw [Crc.turn_length] at hi; exact hi
        have h1 := congrArg (fun z : List Value => z[i]?) hC
        simp only [List.getElem?_take, hi', if_true, Array.getElem?_toList] at h1
        rw [h1]
        simp [cellsOf8, hi]
      have hne : (Crc.next 0#32 l != Crc.next 0#32 (Crc.turn l k y 32)) = true := by
        rw [bne_iff_ne]; exact Crc.turned l k y hy hk32 0#32
      simp -implicitDefEqProofs [go_sem, g0, g2, g7, g8, g33]
      refine callE_of (sum_calls a l _ cap w' rfl (by omega) hF3 ha3) ?_
      rintro v w4 ⟨rfl, rfl⟩
      simp -implicitDefEqProofs [go_sem, g7]
      refine callE_of (sum_calls _ _ l.length cap' w4 (Crc.turn_length l k y 32) (by omega) hF3 hc3) ?_
      rintro v w5 ⟨rfl, rfl⟩
      simp -implicitDefEqProofs [go_sem]
      refine body_tmp 6 rfl ?_
      simp -implicitDefEqProofs [go_sem, hne]
      exact bel.trans (bel3.mono bel.size)

/-- Slices of bytes in a slice that came in. -/
structure RowsIn (w : World) (a : Option Addr) (ls : List (List (BitVec 8))) (cap : Nat) : Prop where
  at_ : ls = [] ∨ ∃ b off, a = some ⟨b, off, none⟩ ∧ ∀ i (h : i < ls.length), ∃ ai ci, w.cell? ⟨b, off + i, none⟩ = some (.slice ai ls[i].length ci) ∧ BytesIn w ai ls[i] ci
  le : ls.length ≤ cap
  max : cap ≤ 9223372036854775807
  small : ∀ i (h : i < ls.length), ls[i].length ≤ 140737488351232
theorem BytesIn.below {w w' : World} {a : Option Addr} {l : List (BitVec 8)} {cap : Nat} (h : BytesIn w a l cap) (hb : Below w.heap.size w w') : BytesIn w' a l cap := ⟨h.at_.below hb, h.le, h.max, h.nil⟩
theorem RowsIn.below {w w' : World} {a : Option Addr} {ls : List (List (BitVec 8))} {cap : Nat} (h : RowsIn w a ls cap) (hb : Below w.heap.size w w') : RowsIn w' a ls cap := by
  refine ⟨?_, h.le, h.max, h.small⟩
  rcases h.at_ with h1 | ⟨b, off, rfl, h1⟩
  · exact .inl h1
  · refine .inr ⟨b, off, rfl, fun i hi => ?_⟩
    obtain ⟨ai, ci, h2, h3⟩ := h1 i hi
    exact ⟨ai, ci, (hb.cell (p := ⟨_, _, none⟩) (World.block_lt_of_cell? w _ h2)).trans h2, h3.below hb⟩

theorem owns_bytes {w : World} {base : Nat} {a : Option Addr} {n cap : Nat} {l : List (BitVec 8)} {e : TypeId} (hl : l.length = n) (h : w.ownsRow base e 1 (.slice a n cap) n (cellsOf8 l)) : BytesAt w a l := by
  obtain ⟨_, ⟨hv, h0⟩ | ⟨g, cap2, cur, hv, hg, hblk, hcap, _, hsz, htake⟩⟩ := h
  · exact .inl (List.eq_nil_of_length_eq_zero (by omega))
  · simp only [Value.slice.injEq] at hv
    obtain ⟨rfl, _, rfl⟩ := hv
    have hblk : Blk w g cur e := hblk
    refine Or.inr ⟨_, _, rfl, fun i hi => ?_⟩
    rw [Nat.zero_add, hblk.cell]
    rw [Nat.mul_one] at htake
    have h1 := congrArg (fun z : List Value => z[i]?) htake
    simp only [List.getElem?_take, show i < n by omega, if_true, Array.getElem?_toList] at h1
    rw [h1]
    simp [cellsOf8, hi]
theorem cellsOf8_append (a b : List (BitVec 8)) : cellsOf8 (a ++ b) = cellsOf8 a ++ cellsOf8 b := by simp [cellsOf8]
theorem cellsOf8_one (l : List (BitVec 8)) : ∀ u ∈ cellsOf8 l, u.oneCell' = true := fun u hu => by simp [cellsOf8] at hu; obtain ⟨x, _, rfl⟩ := hu; rfl

set_option linter.unusedSimpArgs false in
theorem crcPieces_walk (a : Option Addr) (ls : List (List (BitVec 8))) (cap : Nat) (w : World) (ha : RowsIn w a ls cap) (hF : Fours w) :
    Ret Tryd.prog 4 #[.slice a ls.length cap] w fun v w' => v = .bool true ∧ Below w.heap.size w w' := by
  refine ret_of (args := [_]) _ Tryd.func4 rfl Tryd.ntmps4 (by simp) ?_
  simp -implicitDefEqProofs [go_sem]
  refine callE_of (alive_calls w hF) ?_
  rintro v w1 ⟨rfl, bel⟩
  have ha1 := ha.below bel
  have hF1 := hF.below bel
  simp -implicitDefEqProofs [go_sem]
  refine wpE_loop (fun e' w' => ∃ (k : Nat) (xs : List (BitVec 8)) (a' : Option Addr) (cap' : Nat), k ≤ ls.length ∧ xs.length ≤ 3000 ∧ e' 3 = .slice a' xs.length cap' ∧ e' 4 = .int .u32 (uv (Crc.next 0#32 xs)) ∧
    e' 9 = .slice a ls.length cap ∧ e' 10 = .int .i64 ls.length ∧ e' 11 = .int .i64 k ∧ w'.ownsRow w1.heap.size 5 1 (.slice a' xs.length cap') xs.length (cellsOf8 xs) ∧ Below w1.heap.size w1 w')
    (fun e' _ => ls.length - (intOf (e' 11)).toNat) ?_ ?_
  · refine ⟨0, [], none, 0, Nat.zero_le _, by simp, ?_⟩
    simp -implicitDefEqProofs [go_sem, Crc.next_nil, uv_zero]
    exact ⟨World.ownsRow_nil _ _ _ _, Below.refl _ _⟩
  · rintro e' w' ⟨k, xs, a', cap', hk, hxs, h3, h4, h9, h10, h11, hown, bel1⟩
    by_cases hlt : k < ls.length
    · have ha2 := ha1.below bel1
      obtain h | ⟨b, off, rfl, hc⟩ := ha2.at_
      · rw [h] at hlt; simp at hlt
      obtain ⟨ai, ci, hcell, hin⟩ := hc k hlt
      have hsm := ha.small k hlt
      generalize ls[k] = li at *
      have hw := IntWalk.i64_in ((xs.length : Int) + li.length) (by omega)
      by_cases hbig : (3000 : Int) < (xs.length : Int) + li.length
      · simp -implicitDefEqProofs [go_sem, h3, h4, h9, h10, h11, hlt, hcell, hw, hbig]
        refine body_tmp 2 rfl ?_
        simp -implicitDefEqProofs [go_sem]
        exact bel.trans (bel1.mono bel.size)
      · have hw1 := IntWalk.i64_in ((k : Int) + 1) (by have := ha.max; have := ha.le; omega)
        have hF2 := hF1.below bel1
        obtain ⟨a2, cap2, w2, hr, hown2, hgr⟩ := run_append1 (P := Tryd.prog) w1.heap.size 23 Tryd.underlying23 info_u8 rfl hown (a2 := ai) (c2 := ci) (cellsOf8_length li) hin.at_.src hin.nil
          (cellsOf8_one li) (by omega) (by omega) bel1.size
        rw [← cellsOf8_append] at hown2
        have hlen : (xs ++ li).length = xs.length + li.length := List.length_append
        have bel2 : Below w1.heap.size w1 w2 := bel1.grown hgr bel1.size (fun j hj => (hown.lt j hj).1)
        simp -implicitDefEqProofs [go_sem, h3, h4, h9, h10, h11, hlt, hcell, hw, hbig]
        refine callE_of (next_calls _ ai li _ ci w' rfl (by omega) hF2 hin.at_) ?_
        rintro v w3 ⟨rfl, rfl⟩
        rw [Crc.next_append]
        simp -implicitDefEqProofs [go_sem, h3, hr]
        refine callE_of (sum_calls a2 (xs ++ li) _ cap2 w2 hlen (by omega) (hF1.below bel2) (owns_bytes hlen hown2)) ?_
        rintro v w4 ⟨rfl, rfl⟩
        simp -implicitDefEqProofs [go_sem, hw1, h11]
        refine goE_round ⟨k + 1, xs ++ li, a2, cap2, by omega, by omega, ?_⟩ ?_
        · simp -implicitDefEqProofs [go_sem, h9, h10]
          exact ⟨hown2, bel2⟩
        · simp -implicitDefEqProofs [go_sem, intOf, h11]; omega
    · simp -implicitDefEqProofs [go_sem, h3, h4, h9, h10, h11, hlt]
      refine body_tmp 2 rfl ?_
      simp -implicitDefEqProofs [go_sem]
      exact bel.trans (bel1.mono bel.size)
end Go.Proofs.YtgdjnginljamoaaDoor
