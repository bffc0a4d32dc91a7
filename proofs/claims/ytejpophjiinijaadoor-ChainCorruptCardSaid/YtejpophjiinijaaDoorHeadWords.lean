/- The words of a shape: their walk. -/
import Derived.Test.YtejpophjiinijaaDoorHeadOf
import Derived.Test.YtejpophjiinijaaDoorHeadMath2
import Derived.Test.YtejpophjiinijaaDoorCrcWalk
import Derived.Test.YtejpophjiinijaaDoorWordMem
import Derived.Test.YtejpophjiinijaaDoorDraws
import Derived.Test.YtejpophjiinijaaDoorNvmB
namespace Go.Proofs.YtejpophjiinijaaDoor
set_option linter.unusedVariables false
set_option linter.unusedSimpArgs false
set_option maxRecDepth 100000
open Go Go.RowKit

namespace HM
theorem wbytes_getD (l : List (BitVec 64)) : ∀ j, j < 8 * l.length → (wbytes l).getD j 0#8 = WM.byteOf (l.getD (j / 8) 0#64) (j % 8) := by
  induction l with
  | nil => intro j hj; simp at hj
  | cons x l ih =>
    intro j hj
    have e : wbytes (x :: l) = (List.range 8).map (WM.byteOf x) ++ wbytes l := rfl
    simp only [List.length_cons] at hj
    rw [e, List.getD_eq_getElem?_getD]
    by_cases h : j < 8
    · rw [List.getElem?_append_left (by simpa using h)]
      have h1 : j / 8 = 0 := by omega
      have h2 : j % 8 = j := by omega
      rw [h1, h2]
      simp [h]
    · rw [List.getElem?_append_right (by simp; omega)]
      obtain ⟨k, rfl⟩ : ∃ k, j = k + 8 := ⟨j - 8, by omega⟩
      have := ih k (by omega)
      rw [List.getD_eq_getElem?_getD] at this
      have h1 : (k + 8) / 8 = k / 8 + 1 := by omega
      have h2 : (k + 8) % 8 = k % 8 := by omega
      rw [h1, h2]
      simpa using this
def partB (l : List (BitVec 64)) (i : Nat) : List (BitVec 8) := wbytes (l.take i) ++ List.replicate (8 * (l.length - i)) 0#8
theorem partB_len (l : List (BitVec 64)) (i : Nat) (hi : i ≤ l.length) : (partB l i).length = 8 * l.length := by
  unfold partB; rw [List.length_append, wbytes_len, List.length_take, List.length_replicate, Nat.min_eq_left hi]; omega
theorem partB_getD (l : List (BitVec 64)) (i j : Nat) (hi : i ≤ l.length) (hj : j < 8 * l.length) : (partB l i).getD j 0#8 = if j < 8 * i then WM.byteOf (l.getD (j / 8) 0#64) (j % 8) else 0#8 := by
  have hl : (wbytes (l.take i)).length = 8 * i := by rw [wbytes_len, List.length_take, Nat.min_eq_left hi]
  unfold partB
  rw [List.getD_eq_getElem?_getD]
  by_cases h : j < 8 * i
  · rw [if_pos h, List.getElem?_append_left (by omega), ← List.getD_eq_getElem?_getD, wbytes_getD _ _ (by rw [List.length_take]; omega)]
    congr 1
    rw [List.getD_eq_getElem?_getD, List.getElem?_take, if_pos (by omega), ← List.getD_eq_getElem?_getD]
  · rw [if_neg h, List.getElem?_append_right (by omega), List.getElem?_replicate]
    split <;> rfl
theorem partB_step (l : List (BitVec 64)) (i : Nat) (hi : i < l.length) : putB (partB l i) ((8 * i : Nat) : Int) (l.getD i 0#64) = partB l (i + 1) := by
  have hl := partB_len l i (by omega)
  have hh : WM.hasB (partB l i).length ((8 * i : Nat) : Int) = true := by rw [hl]; exact WM.hasB_iff.2 ⟨i, rfl, by omega⟩
  unfold putB
  rw [if_pos hh, Int.toNat_natCast]
  apply NM.list_ext_getD (by rw [WM.putM_length, hl, partB_len _ _ (by omega)])
  intro j hj
  rw [WM.putM_length, hl] at hj
  rw [WM.putM_getD _ _ _ _ (by omega), partB_getD l i j (by omega) hj, partB_getD l (i + 1) j (by omega) hj]
  by_cases h1 : 8 * i ≤ j ∧ j < 8 * i + 8
  · rw [if_pos h1, if_pos (by omega)]
    have e1 : j / 8 = i := by omega
    have e2 : j % 8 = j - 8 * i := by omega
    rw [e1, e2]
  · rw [if_neg h1]
    by_cases h2 : j < 8 * i
    · rw [if_pos h2, if_pos (by omega)]
    · rw [if_neg h2, if_neg (by omega)]
theorem partB_zero (l : List (BitVec 64)) : partB l 0 = List.replicate (8 * l.length) 0#8 := by simp [partB, wbytes]
theorem partB_all (l : List (BitVec 64)) : partB l l.length = wbytes l := by simp [partB]
end HM
/-- Whatever numbers a shape has, they are a machine's. -/
structure HM.Shape.I (s : HM.Shape) : Prop where
  lines : I64 s.lines
  slabs : I64 s.slabs
  table : I64 s.table
  data : I64 s.data
theorem HM.of_i {n : Int} (h : I64 n) : (HM.of n).1.I := by
  cases hb : (HM.of n).2
  · rw [HM.of_none hb]; have h0 : I64 0 := by unfold I64; decide
    exact ⟨h0, h0, h0, h0⟩
  · obtain ⟨h1, h2, h3, h4⟩ := HM.of_some hb
    obtain ⟨m, rfl⟩ := Int.eq_ofNat_of_zero_le (by omega : 0 ≤ n)
    have := HM.slabs_le (n := m) (by omega)
    rw [h3]
    unfold I64 at h
    exact ⟨h, by unfold I64 HM.shapeOf; dsimp only; omega, by unfold I64 HM.shapeOf; dsimp only; omega, by unfold I64 HM.shapeOf; dsimp only; omega⟩
theorem shape_ne (t s : HM.Shape) : (!decide (t.lines = s.lines) || (!decide (t.slabs = s.slabs) || (!decide (t.table = s.table) || !decide (t.data = s.data)))) = !decide (t = s) := by
  obtain ⟨a, b, c, d⟩ := t
  obtain ⟨a', b', c', d'⟩ := s
  rw [Bool.eq_iff_iff]
  simp only [HM.Shape.mk.injEq, Bool.or_eq_true, Bool.not_eq_true', decide_eq_false_iff_not]
  omega
theorem shapeC_0 (s : HM.Shape) : (shapeC s)[0]? = some (.int .i64 s.lines) := rfl
theorem shapeC_1 (s : HM.Shape) : (shapeC s)[1]? = some (.int .i64 s.slabs) := rfl
theorem shapeC_2 (s : HM.Shape) : (shapeC s)[2]? = some (.int .i64 s.table) := rfl
theorem shapeC_3 (s : HM.Shape) : (shapeC s)[3]? = some (.int .i64 s.data) := rfl
theorem stShape (s : HM.Shape) : ∀ (w : World) (e : Env) (dst : Option Tmp) (x y : Operand) (ty' : TypeId) (pos : String) (af : Array Edge) (gd : Option (Nat × Bool)), ev e x = .pointer (some ⟨w.heap.size, 0, none⟩) → ev e y = .agg (shapeC s) →
    xOp Tryd.prog e ⟨dst, .store 86 x y, ty', pos, af, gd⟩ (w.alloc (.cells #[.int .i64 0, .int .i64 0, .int .i64 0, .int .i64 0] 86)) = .ok .skip (w.alloc (.cells (shapeC s) 86)) :=
  stNew (P := Tryd.prog) (shapeI s) rfl (shapeC_one s)
section
set_option linter.unusedSimpArgs false
set_option maxHeartbeats 1000000 in
theorem headWords_calls (s : HM.Shape) (w0 : World) (hs : s.I) (hF : Fours w0) : Ret Tryd.prog 83 #[.agg (shapeC s)] w0 fun v w' => Below w0.heap.size w0 w' ∧
    ∃ a c, v = .slice a (HM.words s).length c ∧ SlIn .u64 w' a (HM.words s) c ∧ (∀ y, a = some y → w0.heap.size ≤ y.block) := by
  have bel0 := Below.refl w0.heap.size w0
  have hst : Tryd.prog.underlying 86 = _ := Tryd.underlying86
  refine ret_of (args := [_]) _ Tryd.func83 rfl Tryd.ntmps83 (by simp) ?_
  simp -implicitDefEqProofs [go_sem, shapeC_0]
  generalize hw1 : World.alloc w0 _ = w1 at *
  obtain ⟨hB1, b1, sz1⟩ := new_facts hw1
  have bel1 := bel0.trans (b1.mono bel0.size)
  refine callE_of (headOf_calls s.lines w1 hs.lines) ?_
  rintro v w2 ⟨rfl, b2⟩
  have bel2 := bel1.trans (b2.mono bel1.size)
  replace hB1 := hB1.next b2
  simp -implicitDefEqProofs [go_sem, ↓stShape (HM.of s.lines).1]
  generalize hw3 : World.alloc w2 _ = w3 at *
  obtain ⟨hB3, b3, sz3⟩ := new_facts hw3
  have bel3 := bel2.trans (b3.mono bel2.size)
  replace hB1 := hB1.next b3
  have l1 := ldAll (P := Tryd.prog) hB1 hst rfl shapeI4 rfl
  have l3 := ldAll (P := Tryd.prog) hB3 hst rfl shapeI4 rfl
  cases hb : (HM.of s.lines).2
  · have hw : HM.words s = [] := by unfold HM.words; rw [if_neg]; rw [hb]; simp
    rw [hw]
    simp -implicitDefEqProofs [go_sem, ↓l1, ↓l3]
    refine body_tmp 2 rfl ?_
    simp -implicitDefEqProofs [go_sem]
    exact ⟨bel3, none, 0, ⟨rfl, rfl⟩, ⟨.inl rfl, Nat.le_refl _, by decide, fun _ => rfl⟩, fun y hy => by cases hy⟩
  generalize ht : (HM.of s.lines).1 = t at *
  by_cases hts : ¬ t = s
  · have hw : HM.words s = [] := HM.words_none (.inr (by rw [ht]; exact hts))
    rw [hw]
    simp -implicitDefEqProofs [go_sem, ↓l1, ↓l3, shapeC_0, shapeC_1, shapeC_2, shapeC_3, shape_ne, hts]
    refine body_tmp 2 rfl ?_
    simp -implicitDefEqProofs [go_sem]
    exact ⟨bel3, none, 0, ⟨rfl, rfl⟩, ⟨.inl rfl, Nat.le_refl _, by decide, fun _ => rfl⟩, fun y hy => by cases hy⟩
  replace hts : t = s := by simpa using hts
  subst hts
  have hw : HM.words t = HM.six t ++ [(Crc.next 0#32 (HM.wbytes (HM.six t))).setWidth 64, 0#64] := by unfold HM.words; rw [if_pos ⟨hb, ht⟩]
  have hmk := fun w => run_make_n (P := Tryd.prog) (t := 64) (e := 5) (z := .int .u8 0) (bytes := 1) Tryd.underlying64 (by kernel_rfl) rfl .i64 .i64 48 (by omega) (by omega) w
  have e48 : ((48 : Nat) : Int) = 48 := rfl
  simp only [e48] at hmk
  simp -implicitDefEqProofs [go_sem, ↓l1, ↓l3, shapeC_0, shapeC_1, shapeC_2, shapeC_3, shape_ne, hmk, hB1.cell]
  generalize hw4 : World.alloc w3 _ = w4 at *
  obtain ⟨hB4, b4, sz4⟩ := new_facts hw4
  have bel4 := bel3.trans (b4.mono bel3.size)
  replace hB1 := hB1.next b4
  generalize hw5 : World.alloc w4 _ = w5 at *
  obtain ⟨hB5, b5, sz5⟩ := new_facts hw5
  have bel5 := bel4.trans (b5.mono bel4.size)
  replace hB1 := hB1.next b5
  replace hB4 := hB4.next b5
  have hsix : HM.six t = [465675318387#64, 1#64, BitVec.ofInt 64 t.lines, BitVec.ofInt 64 t.slabs, BitVec.ofInt 64 t.table, BitVec.ofInt 64 t.data] := rfl
  have hp0 : HM.partB (HM.six t) 0 = List.replicate 48 0#8 := HM.partB_zero _
  have hin5 : SlIn .u8 w5 (some ⟨w4.heap.size, 0, none⟩) (List.replicate 48 0#8) 48 := ⟨slAt_blk hB5 (fun i hi => by
    have hi' : i < 48 := by simpa using hi
    have e : (List.replicate 48 0#8)[i] = 0#8 := List.getElem_replicate ..
    rw [e]; simp [hi', show uv 0#8 = 0 from rfl]), by simp, by omega, fun h => by cases h⟩
  rw [← hp0] at hin5
  obtain ⟨C4, hC4⟩ : ∃ C4 : Array Value, C4 = #[.int .u64 465675318387, .int .u64 1, .int .u64 (uv (BitVec.ofInt 64 t.lines)), .int .u64 (uv (BitVec.ofInt 64 t.slabs)), .int .u64 (uv (BitVec.ofInt 64 t.table)), .int .u64 (uv (BitVec.ofInt 64 t.data)), .int .u64 0, .int .u64 0] := ⟨_, rfl⟩
  rw [← hC4] at hB4
  have hC4k : ∀ k, k < 6 → C4[k]? = some (.int .u64 (uv ((HM.six t).getD k 0#64))) := by
    intro k hk
    have : k = 0 ∨ k = 1 ∨ k = 2 ∨ k = 3 ∨ k = 4 ∨ k = 5 := by omega
    rw [hC4]
    rcases this with rfl | rfl | rfl | rfl | rfl | rfl <;> rfl
  refine wpE_loop (fun e' w' => ∃ (k : Nat) (a : Option Addr) (c : Nat), k ≤ 6 ∧ e' 5 = .slice (some ⟨w3.heap.size, 0, none⟩) 8 8 ∧ e' 6 = .slice a 48 c ∧ e' 37 = .slice (some ⟨w3.heap.size, 0, none⟩) 6 8 ∧ e' 38 = .int .i64 6 ∧ e' 39 = .int .i64 k ∧
    SlIn .u8 w' a (HM.partB (HM.six t) k) c ∧ Blk w' w3.heap.size C4 23 ∧ Below w0.heap.size w0 w' ∧ w5.heap.size ≤ w'.heap.size) (fun e' _ => 6 - (intOf (e' 39)).toNat) ?_ ?_
  · refine ⟨0, some ⟨w4.heap.size, 0, none⟩, 48, by omega, ?_⟩
    simp -implicitDefEqProofs [go_sem]
    exact ⟨hin5, hB4, bel5⟩
  · rintro e' w6 ⟨k, a, c, hk, g5, g6, g37, g38, g39, hin, hB, b6, hsz⟩
    by_cases hlt : k < 6
    · have hlt' : (k : Int) < 6 := by omega
      have hw1 := IntWalk.i64_in ((k : Int) + 1) (by omega)
      have hw8 := IntWalk.i64_in (8 * (k : Int)) (by omega)
      have g := hB.cell k
      rw [hC4k k hlt] at g
      simp -implicitDefEqProofs [go_sem, g5, g6, g37, g38, g39, hlt, hlt', hw1, hw8, g]
      have hput := put_calls a (HM.partB (HM.six t) k) 48 c ((8 * k : Nat) : Int) ((HM.six t).getD k 0#64) w6 (by rw [HM.partB_len _ _ (by rw [hsix]; simp; omega)]; rfl) (by omega) hin
      rw [HM.partB_step _ _ (by rw [hsix]; simp; omega), show ((8 * k : Nat) : Int) = 8 * (k : Int) by omega] at hput
      refine callE_of hput ?_
      rintro v w7 ⟨a', c', rfl, hin', b7⟩
      simp -implicitDefEqProofs [go_sem, g5, g37, g38, g39, hw1]
      refine goE_round ⟨k + 1, a', c', by omega, ?_⟩ ?_
      · simp -implicitDefEqProofs [go_sem, g5, g37, g38]
        exact ⟨hin', hB.next b7, b6.trans (b7.mono b6.size), Nat.le_trans hsz b7.size⟩
      · simp -implicitDefEqProofs [go_sem, intOf, g39]; omega
    · have hk' : k = 6 := by omega
      subst hk'
      have e6 : HM.partB (HM.six t) 6 = HM.wbytes (HM.six t) := HM.partB_all (HM.six t)
      rw [e6] at hin
      have hlen : (HM.wbytes (HM.six t)).length = 48 := by rw [HM.wbytes_len]; rfl
      simp -implicitDefEqProofs [go_sem, g5, g6, g37, g38, g39]
      refine callE_of (sum_calls a (HM.wbytes (HM.six t)) 48 c w6 hlen (by omega) (hF.below b6) hin.at_) ?_
      rintro v w7 ⟨rfl, rfl⟩
      have gt := hB.thaw 6
      have gc := hB.cell 6
      have gc6 : C4[6]? = some (.int .u64 0) := by rw [hC4]; rfl
      rw [gc6] at gc
      have hB' := hB.set 6 (.int .u64 (uv ((Crc.next 0#32 (HM.wbytes (HM.six t))).setWidth 64)))
      simp -implicitDefEqProofs [go_sem, g5, g6, g37, g38, g39, gt, gc]
      refine body_tmp 2 rfl ?_
      rw [hw]
      simp -implicitDefEqProofs [go_sem, g5]
      refine ⟨b6.setCell (by show w0.heap.size ≤ w3.heap.size; exact bel3.size) _, _, _, ⟨rfl, rfl, rfl⟩, ⟨slAt_blk hB' (fun i hi => ?_), by simp [HM.six], by decide, fun h => by cases h⟩, fun y hy => by rw [← Option.some.inj hy]; exact bel3.size⟩
      have hi8 : i < 8 := by simpa [HM.six] using hi
      have : i = 0 ∨ i = 1 ∨ i = 2 ∨ i = 3 ∨ i = 4 ∨ i = 5 ∨ i = 6 ∨ i = 7 := by omega
      rw [hC4]
      rcases this with rfl | rfl | rfl | rfl | rfl | rfl | rfl | rfl <;> rfl
end
end Go.Proofs.YtejpophjiinijaaDoor
