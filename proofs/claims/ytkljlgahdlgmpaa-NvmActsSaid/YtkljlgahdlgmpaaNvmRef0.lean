/- The document's Get and Put of a word, where there is such a place. -/
import Derived.Test.YtkljlgahdlgmpaaWordMem
namespace Go.Proofs.Ytkljlgahdlgmpaa
set_option linter.unusedVariables false
set_option linter.unusedSimpArgs false
open Go Go.RowKit

theorem word_step (W : BitVec 64) (i : Nat) (hi : i < 8) : W >>> (8 * (i + 1)) * 256#64 + (WM.byteOf W i).setWidth 64 = W >>> (8 * i) := by
  apply BitVec.eq_of_toNat_eq
  have h1 : (W >>> (8 * (i + 1))).toNat = W.toNat >>> (8 * i) / 256 := by
    rw [BitVec.toNat_ushiftRight, Nat.shiftRight_eq_div_pow, Nat.shiftRight_eq_div_pow, Nat.div_div_eq_div_mul, show 8 * (i + 1) = 8 * i + 8 by omega, Nat.pow_add]
  have h2 : ((WM.byteOf W i).setWidth 64).toNat = W.toNat >>> (8 * i) % 256 := by
    unfold WM.byteOf
    rw [BitVec.toNat_setWidth, BitVec.toNat_setWidth, BitVec.toNat_ushiftRight]
    exact Nat.mod_eq_of_lt (Nat.lt_of_lt_of_le (Nat.mod_lt _ (by decide)) (by decide))
  have h3 : W.toNat >>> (8 * i) < 18446744073709551616 := by
    rw [Nat.shiftRight_eq_div_pow]; exact Nat.lt_of_le_of_lt (Nat.div_le_self _ _) W.isLt
  rw [BitVec.toNat_add, BitVec.toNat_mul, h1, h2, BitVec.toNat_ushiftRight]
  show (W.toNat >>> (8 * i) / 256 * 256 % 18446744073709551616 + W.toNat >>> (8 * i) % 256) % 18446744073709551616 = _
  generalize W.toNat >>> (8 * i) = y at *
  omega
theorem byteOf_getM (l : List (BitVec 8)) (p i : Nat) (hi : i < 8) : WM.byteOf (WM.getM l p) i = l.getD (p + i) 0#8 := by
  unfold WM.getM; rw [WM.byteOf_wd _ _ hi]

set_option linter.unusedSimpArgs false in
theorem refGet_calls (a : Option Addr) (l : List (BitVec 8)) (n c : Nat) (y : Nat) (w : World) (hl : l.length = n) (hn : n ≤ 9223372036854775807) (hin : SlAt .u8 w a l) (h8 : y % 8 = 0) (hy : y + 8 ≤ n) :
    Ret Try.prog 53 #[.slice a n c, .int .i64 y] w fun v w' => v = .tuple #[.int .u64 (uv (WM.getM l y)), .bool true] ∧ w' = w := by
  subst hl
  have c1 : ¬ (y : Int) < 0 := by omega
  have c2 : (y : Int).tmod 8 = 0 := by rw [Int.tmod_eq_emod_of_nonneg (by omega)]; omega
  have c2' : (y : Int) % 8 = 0 := by omega
  have c3 := IntWalk.i64_in ((l.length : Int) - 8) (by omega)
  have c4 : ¬ (l.length : Int) - 8 < y := by omega
  refine ret_of (args := [_, _]) _ Try.func53 rfl Try.ntmps53 (by simp) ?_
  simp -implicitDefEqProofs [go_sem, c1, c2, c2', c3, c4]
  have hz : WM.getM l y >>> (8 * 8) = 0#64 := by
    apply BitVec.eq_of_toNat_eq
    rw [BitVec.toNat_ushiftRight, Nat.shiftRight_eq_div_pow]
    exact Nat.div_eq_of_lt (by have := (WM.getM l y).isLt; simpa using this)
  refine wpE_loop (fun e' w' => w' = w ∧ ∃ k : Nat, k ≤ 8 ∧ e' 0 = .slice a l.length c ∧ e' 1 = .int .i64 y ∧ e' 6 = .int .u64 (uv (WM.getM l y >>> (8 * k))) ∧ e' 7 = .int .i64 ((k : Int) - 1)) (fun e' _ => (intOf (e' 7) + 1).toNat) ?_ ?_
  · refine ⟨rfl, 8, by omega, ?_⟩
    simp -implicitDefEqProofs [go_sem, hz]
    simp [uv]
  · rintro e' w' ⟨rfl, k, hk, h0, h1, h6, h7⟩
    by_cases hlt : 0 < k
    · obtain ⟨i, rfl⟩ : ∃ i, k = i + 1 := ⟨k - 1, by omega⟩
      have e1 : ((i + 1 : Nat) : Int) - 1 = (i : Int) := by omega
      rw [e1] at h7
      obtain ⟨b, o, rfl, g⟩ := hin.cellD (i := y + i) (by omega)
      have d1 : (0 : Int) ≤ i := by omega
      have d2 := IntWalk.i64_in ((i : Int) - 1) (by omega)
      have d3 := IntWalk.i64_in ((y : Int) + i) (by omega)
      have i0 : (0 : Int) ≤ y + i := by omega
      have i1 : (y : Int) + i < l.length := by omega
      have i2 : ((y : Int) + i).toNat = y + i := by omega
      have hst := word_step (WM.getM l y) i (by omega)
      rw [byteOf_getM l y i (by omega), List.getD_eq_getElem?_getD] at hst
      simp -implicitDefEqProofs [go_sem, h0, h1, h6, h7, d1, d2, d3, i0, i1, i2, g]
      refine goE_round ⟨rfl, i, by omega, ?_⟩ ?_
      · simp -implicitDefEqProofs [go_sem, h0, h1, hst]
      · simp -implicitDefEqProofs [go_sem, intOf, h7]
    · have hk' : k = 0 := by omega
      subst hk'
      simp -implicitDefEqProofs [go_sem, h0, h1, h6, h7]
      refine body_tmp2 4 5 rfl ?_
      simp -implicitDefEqProofs [go_sem]
theorem byteOf_mod (x : BitVec 64) (k : Nat) : (x >>> (8 * k) % 256#64).setWidth 8 = WM.byteOf x k := by
  unfold WM.byteOf
  apply BitVec.eq_of_toNat_eq
  simp only [BitVec.toNat_setWidth, BitVec.toNat_umod]
  rw [show (256#64).toNat = 256 from rfl, Nat.mod_mod_of_dvd _ (by decide)]
theorem shr_div (x : BitVec 64) (k : Nat) : x >>> (8 * k) / 256#64 = x >>> (8 * (k + 1)) := by
  apply BitVec.eq_of_toNat_eq
  simp only [BitVec.toNat_udiv, BitVec.toNat_ushiftRight, Nat.shiftRight_eq_div_pow]
  rw [show (256#64).toNat = 256 from rfl, Nat.div_div_eq_div_mul, show 8 * (k + 1) = 8 * k + 8 by omega, Nat.pow_add]
set_option maxRecDepth 10000 in
set_option linter.unusedSimpArgs false in
theorem refPut_calls (a : Option Addr) (l : List (BitVec 8)) (n c : Nat) (y : Nat) (x : BitVec 64) (w0 : World) (hl : l.length = n) (hm : n ≤ 1000000) (hin : SlIn .u8 w0 a l c) (h8 : y % 8 = 0) (hy : y + 8 ≤ n) :
    Ret Try.prog 55 #[.slice a n c, .int .i64 y, .int .u64 (uv x)] w0 fun v w' => ∃ g c', v = .tuple #[.slice (some ⟨g, 0, none⟩) n c', .bool true] ∧ w0.heap.size ≤ g ∧ SlIn .u8 w' (some ⟨g, 0, none⟩) (WM.putM l y x) c' ∧ Below w0.heap.size w0 w' := by
  subst hl
  have bel0 := Below.refl w0.heap.size w0
  have c1 : ¬ (y : Int) < 0 := by omega
  have c2 : (y : Int).tmod 8 = 0 := by rw [Int.tmod_eq_emod_of_nonneg (by omega)]; omega
  have c2' : (y : Int) % 8 = 0 := by omega
  have c3 := IntWalk.i64_in ((l.length : Int) - 8) (by omega)
  have c4 : ¬ (l.length : Int) - 8 < y := by omega
  refine ret_of (args := [_, _, _]) _ Try.func55 rfl Try.ntmps55 (by simp) ?_
  simp -implicitDefEqProofs [go_sem, c1, c2, c2', c3, c4]
  have hlit := World.ownsRow_lit (base := w0.heap.size) (e := 5) (size := 1) w0 #[] 0 (Nat.le_refl _) (by decide) rfl
  generalize hw1 : World.alloc w0 _ = w1 at *
  have sz1 : w1.heap.size = w0.heap.size + 1 := by rw [← hw1]; simp
  have b1 : Below w0.heap.size w0 w1 := by rw [← hw1]; exact bel0.alloc (Nat.le_refl _) _
  have hin1 := hin.next b1
  obtain ⟨a2, c2, w2, hr2, hown, hgr⟩ := run_append1 (P := Try.prog) w0.heap.size (t := 23) (bytes := 1) (z := .int .u8 0) 23 Try.underlying23 info_u8 rfl hlit (a2 := a) (c2 := c) (m := l.length) (news := cellsK .u8 l) (cellsK_length) hin1.at_.src hin1.nil (fun u hu => cellsK_one u hu) (by omega) (by omega) (by omega)
  rw [Nat.zero_add] at hr2
  rw [Nat.zero_add] at hown
  have b2 : Below w0.heap.size w0 w2 := b1.grown hgr (by omega) (fun j hj => by simp [Value.ownBlock] at hj; omega)
  obtain ⟨g, C, rfl, hg, hB, hcle, hcmax, hC⟩ := owns_blk (l := l) rfl (by omega) (by simpa using hown)
  simp -implicitDefEqProofs [go_sem, hr2]
  refine wpE_loop (fun e' w' => ∃ (k : Nat) (C : Array Value), k ≤ 8 ∧ e' 1 = .int .i64 y ∧ e' 2 = .int .u64 (uv (x >>> (8 * k))) ∧ e' 8 = .slice (some ⟨g, 0, none⟩) l.length c2 ∧ e' 9 = .int .i64 k ∧ Blk w' g C 5 ∧
    (∀ i, i < l.length → C[i]? = some (.int .u8 (uv ((WM.putK l y x k).getD i 0#8)))) ∧ Below w0.heap.size w0 w') (fun e' _ => 8 - (intOf (e' 9)).toNat) ?_ ?_
  · refine ⟨0, C, by omega, ?_⟩
    simp -implicitDefEqProofs [go_sem]
    exact ⟨hB, fun i hi => by have := hC i hi; simpa [WM.putK] using this, b2⟩
  · rintro e' w' ⟨k, C, hk, h1, h2, h8, h9, hBk, hCk, bel⟩
    by_cases hlt : k < 8
    · have c1 : (k : Int) < 8 := by omega
      have hw := IntWalk.i64_in ((k : Int) + 1) (by omega)
      have hw1 := IntWalk.i64_in ((y : Int) + k) (by omega)
      have i0 : (0 : Int) ≤ y + k := by omega
      have i1 : (y : Int) + k < l.length := by omega
      have i2 : ((y : Int) + k).toNat = y + k := by omega
      have g1 := hBk.cell (y + k)
      rw [hCk _ (by omega)] at g1
      have f1 := hBk.thaw (y + k)
      have hlen := WM.putK_length l y x k
      have hst : WM.putK l y x (k + 1) = (WM.putK l y x k).set (y + k) (WM.byteOf x k) := rfl
      generalize WM.putK l y x k = L at *
      have hs := hBk.set (y + k) (.int .u8 (uv (WM.byteOf x k)))
      simp -implicitDefEqProofs [go_sem, h1, h2, h8, h9, c1, hw1, i0, i1, i2, g1, f1, byteOf_mod, shr_div]
      refine goE_round ⟨k + 1, C.setIfInBounds (y + k) (.int .u8 (uv (WM.byteOf x k))), by omega, ?_⟩ ?_
      · simp -implicitDefEqProofs [go_sem, h1, h2, h8, hw]
        refine ⟨hs, fun i hi => ?_, bel.setCell hg _⟩
        have hCs : y + k < C.size := by
          have := hCk (y + k) (by omega)
          rcases Nat.lt_or_ge (y + k) C.size with h | h
          · exact h
          · rw [Array.getElem?_eq_none h] at this; cases this
        rw [Array.getElem?_setIfInBounds, hst]
        by_cases h : y + k = i
        · subst h
          have hyk : y + k < L.length := by omega
          rw [if_pos rfl, if_pos hCs]; simp [hyk]
        · rw [if_neg h, hCk i hi]; simp [h]
      · simp -implicitDefEqProofs [go_sem, intOf, h9, hw]; omega
    · have hk' : k = 8 := by omega
      subst hk'
      simp -implicitDefEqProofs [go_sem, h1, h2, h8, h9]
      refine body_tmp2 6 7 rfl ?_
      simp -implicitDefEqProofs [go_sem]
      refine ⟨g, c2, ⟨rfl, rfl⟩, hg, ⟨slAt_blk hBk fun i hi => ?_, ?_, hcmax, fun h => by cases h⟩, bel⟩
      · have hi' : i < l.length := by rw [WM.putM_length] at hi; exact hi
        rw [hCk i hi']
        have hi2 : i < (WM.putK l y x 8).length := hi
        simp [List.getD, hi2, WM.putM]
      · rw [WM.putM_length]; exact hcle
end Go.Proofs.Ytkljlgahdlgmpaa
