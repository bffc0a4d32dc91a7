/- Image: its walk. -/
import Derived.Test.YtkljlgahdlgmpaaNvmWalk5
namespace Go.Proofs.Ytkljlgahdlgmpaa
open Go Go.RowKit

def imgK (D : NM.Dv) (k : Nat) : List (BitVec 8) := ((D.ls.take k).map NM.Ln.now).flatten
theorem imgK_zero (D : NM.Dv) : imgK D 0 = [] := rfl
theorem imgK_succ (D : NM.Dv) (k : Nat) (hk : k < D.ls.length) : imgK D (k + 1) = imgK D k ++ (D.ln k).now := by
  have : D.ln k = D.ls[k] := by simp [NM.Dv.ln, List.getD, hk]
  unfold imgK; rw [List.take_succ_eq_append_getElem hk, List.map_append, List.flatten_append, this]; simp
theorem imgK_all (D : NM.Dv) : imgK D D.ls.length = D.image := by unfold imgK NM.Dv.image; rw [List.take_length]
theorem imgK_len (D : NM.Dv) (h : D.Ok0) : ∀ k, k ≤ D.ls.length → (imgK D k).length = 64 * k
  | 0, _ => rfl
  | k + 1, hk => by rw [imgK_succ D k (by omega), List.length_append, imgK_len D h k (by omega), (NM.Dv.Ok0.ln h k).len]; omega
theorem byteI : ∃ i, Try.prog.info? 5 = some i ∧ i.zero = some (.int .u8 0) ∧ i.size = 1 ∧ i.bytes = 1 := by
  have h : (Try.prog.info? 5).map (fun i => (i.zero, i.size, i.bytes)) = some (some (Value.int .u8 0), 1, 1) := info_u8
  obtain ⟨i, hi, h2⟩ := Option.map_eq_some_iff.1 h
  simp only [Prod.mk.injEq] at h2
  exact ⟨i, hi, h2.1, h2.2.1, h2.2.2⟩

set_option maxRecDepth 10000 in
set_option maxHeartbeats 1000000 in
set_option linter.unusedSimpArgs false in
theorem image_calls {p lb : Nat} {D : NM.Dv} {S : Nat → Spot} (w0 : World) (h : DevAt w0 p lb D S) :
    Ret Try.prog 19 #[.pointer (some ⟨p, 0, none⟩)] w0 fun v w' => ∃ a c, v = .slice a D.size c ∧ SlIn .u8 w' a D.image c ∧ Below w0.heap.size w0 w' ∧ (∀ y, a = some y → w0.heap.size ≤ y.block ∧ y.block < w'.heap.size) := by
  have hpos := h.pos
  have hmost := h.ok.most
  have hs0 : ((D.size : Int) == 0) = false := by rw [beq_eq_false_iff_ne]; unfold NM.Dv.size; omega
  have hs0' : ¬ D.size = 0 := by unfold NM.Dv.size; omega
  have hsz : D.size = 64 * D.ls.length := rfl
  obtain ⟨ti, hti, htz, hts, htb⟩ := byteI
  have hmk := fun w => run_make (P := Try.prog) w 23 5 ti (.int .u8 0) Try.underlying23 hti htz .i64 .i64 0 (D.size : Int) (Int.le_refl _) (by omega) (by rw [htb]; omega) (by omega)
  rw [hts, Int.toNat_natCast, Nat.mul_one] at hmk
  refine ret_of (args := [_]) _ Try.func19 rfl Try.ntmps19 (by simp) ?_
  simp -implicitDefEqProofs [go_sem]
  refine callE_of (size_calls w0 h) ?_
  rintro v w1 ⟨rfl, rfl⟩
  simp -implicitDefEqProofs [go_sem, hs0, hs0']
  refine callE_of (size_calls w1 h) ?_
  rintro v w2 ⟨rfl, rfl⟩
  have b3 : Below w2.heap.size w2 (w2.alloc (.cells (madeCells #[Value.int .u8 0] D.size) 5)) := (Below.refl _ _).alloc (Nat.le_refl _) _
  have hown0 := World.ownsRow_made (base := w2.heap.size) (e := 5) (size := 1) w2 (madeCells #[Value.int .u8 0] D.size) D.size (Nat.le_refl _) (by unfold maxLen; omega) (by simp [madeCells])
  have h3 := h.next b3
  simp -implicitDefEqProofs [go_sem, hmk, h3.dev.cell]
  generalize World.alloc w2 _ = w3 at *
  refine wpE_loop (fun e' w' => ∃ (k : Nat) (a : Option Addr) (c : Nat), k ≤ D.ls.length ∧ e' 0 = .pointer (some ⟨p, 0, none⟩) ∧ e' 3 = .slice a (64 * k) c ∧ e' 15 = .int .i64 D.ls.length ∧ e' 16 = .int .i64 k ∧
    w'.ownsRow w2.heap.size 5 1 (.slice a (64 * k) c) (64 * k) (cellsK .u8 (imgK D k)) ∧ Below w2.heap.size w2 w') (fun e' _ => D.ls.length - (intOf (e' 16)).toNat) ?_ ?_
  · refine ⟨0, some ⟨w2.heap.size, 0, none⟩, D.size, by omega, ?_⟩
    simp -implicitDefEqProofs [go_sem, imgK_zero]
    exact ⟨by simpa [cellsK] using hown0, b3⟩
  · rintro e' w' ⟨k, a, c, hk, g0, g3, g15, g16, hown, bel⟩
    by_cases hlt : k < D.ls.length
    · have hlt' : (k : Int) < D.ls.length := by omega
      have hw := IntWalk.i64_in ((k : Int) + 1) (by omega)
      have h' := h.next bel
      have hnow := h'.now hlt
      have hl64 := (NM.Dv.Ok0.ln h.ok k).len
      obtain ⟨a2, c2, w4, hr4, hown4, hgr⟩ := run_append1 (P := Try.prog) w2.heap.size (t := 23) (bytes := 1) (z := .int .u8 0) 23 Try.underlying23 info_u8 rfl hown (a2 := some ⟨lb, k * 66, none⟩) (c2 := 64) (m := 64) (news := cellsK .u8 (D.ln k).now) (by rw [cellsK_length, hl64]) hnow.at_.src (by simp) (fun u hu => cellsK_one u hu) (by omega) (by omega) (by have := bel.size; omega)
      have b4 := bel.grown hgr (by have := bel.size; omega) (fun j hj => (hown.lt j hj).1)
      simp -implicitDefEqProofs [go_sem, g0, g3, g15, g16, hlt, hlt', h'.dev.cell, hr4, hw]
      refine goE_round ⟨k + 1, a2, c2, by omega, ?_⟩ ?_
      · simp -implicitDefEqProofs [go_sem, g0, g15]
        refine ⟨by omega, ?_, b4⟩
        rw [imgK_succ D k hlt, cellsK_append, show 64 * (k + 1) = 64 * k + 64 by omega]
        exact hown4
      · simp -implicitDefEqProofs [go_sem, intOf, g16, hw]; omega
    · have hk' : k = D.ls.length := by omega
      subst hk'
      rw [imgK_all] at hown
      have hlen : D.image.length = 64 * D.ls.length := by rw [← imgK_all]; exact imgK_len D h.ok _ (Nat.le_refl _)
      simp -implicitDefEqProofs [go_sem, g0, g3, g15, g16]
      refine body_tmp 2 rfl ?_
      simp -implicitDefEqProofs [go_sem]
      exact ⟨a, c, ⟨rfl, by rw [hsz], rfl⟩, owns_slIn hlen hown, bel, fun y hy => by subst hy; exact hown.lt y.block rfl⟩
end Go.Proofs.Ytkljlgahdlgmpaa
