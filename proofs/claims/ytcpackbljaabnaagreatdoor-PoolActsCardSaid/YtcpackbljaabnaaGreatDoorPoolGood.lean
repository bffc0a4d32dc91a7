/- What stays of a pool and its device through its calls (plain): well, its header, no pending change, few steps. -/
import Derived.Test.YtcpackbljaabnaaGreatDoorPoolStep
import Derived.Test.YtcpackbljaabnaaGreatDoorPoolAlive
import Derived.Test.YtcpackbljaabnaaGreatDoorPoolFill0
namespace Go.Proofs.YtcpackbljaabnaaGreatDoor
set_option linter.unusedVariables false
set_option linter.unusedSimpArgs false
set_option maxRecDepth 100000
open Go Go.RowKit

structure Good (m k : Nat) (V : PV) : Prop where
  well : Well m V
  open_ : V.D.openH = (shN m, 0)
  calm : NM.Calm V.D
  steps : V.D.steps ≤ 100000 + 3 * k
section
variable {m k : Nat} {V : PV}
theorem good_zero (hm : 1 ≤ m ∧ m ≤ 4) : Good m 0 ⟨zL m, zL m, begD m⟩ := ⟨well_zero hm, (beg_facts hm).2.1, beg_calm hm, beg_small hm.2⟩
theorem Good.mono (h : Good m k V) {k' : Nat} (hk : k ≤ k') : Good m k' V := ⟨h.well, h.open_, h.calm, by have := h.steps; omega⟩
theorem Good.put (h : Good m k V) (hm : 1 ≤ m ∧ m ≤ 4) {i : Nat} (hi : i < m) (x : BitVec 64) {D' : NM.Dv} (hD : D' = (runS V.D (putS ((128 + 8 * i : Nat) : Int) x)).1) : D'.openH = (shN m, 0) ∧ NM.Calm D' ∧ D'.steps ≤ 100000 + 3 * (k + 1) := by
  have hl := h.well.lines
  have hs : V.D.size = 64 * (3 + 16 * m) := by unfold NM.Dv.size; rw [hl]
  have h1 := NM.put_open h.well.ok h.well.up (by rw [hl]; omega) (o := 128 + 8 * i) (by omega) (by omega) (by omega) x
  have h2 := NM.put_calm h.well.ok h.well.up (by rw [hl]; omega) (o := 128 + 8 * i) (by omega) (by omega) x h.calm
  have h3 := runS_steps V.D (putS ((128 + 8 * i : Nat) : Int) x)
  have h4 : (putS ((128 + 8 * i : Nat) : Int) x).length = 3 := rfl
  have h5 := h.steps
  rw [hD]
  exact ⟨h1.trans h.open_, h2, by omega⟩
theorem Good.reserve (h : Good m k V) (s : HM.Shape) {c : Nat} (hc : c = 1 ∨ c = 2) : Good m k (reserveV s V c).1 := by
  have hw := (well_reserve (s := s) h.well hc).1
  rcases resV (s := s) h.well hc with e | ⟨i, q, hi, hq, hok, e⟩
  · rw [e]; exact h
  · rw [e] at hw ⊢; exact ⟨hw, h.open_, h.calm, h.steps⟩
theorem Good.take (h : Good m k V) (hm : 1 ≤ m ∧ m ≤ 4) (s : HM.Shape) (off : Int) : Good m (k + 1) (takeV s V off).1 := by
  have hw := (well_take (s := s) h.well hm off).1
  rcases takV (s := s) h.well hm off with e | ⟨i, q, -, hi, -, -, -, D', e, hD⟩
  · rw [e]; exact h.mono (by omega)
  · rw [e] at hw ⊢
    obtain ⟨h1, h2, h3⟩ := h.put hm hi _ hD
    exact ⟨hw, h1, h2, h3⟩
theorem Good.drop (h : Good m k V) (hm : 1 ≤ m ∧ m ≤ 4) (s : HM.Shape) (off : Int) : Good m (k + 1) (dropV s V off).1 := by
  have hw := (well_drop (s := s) h.well hm off).1
  rcases drpV (s := s) h.well hm off with ⟨e, -⟩ | ⟨i, q, -, hi, -, -, ⟨-, e⟩ | ⟨-, -, e⟩⟩
  · rw [e]; exact h.mono (by omega)
  · rw [e] at hw ⊢
    exact ⟨hw, h.open_, h.calm, by have := h.steps; show V.D.steps ≤ _; omega⟩
  · rw [e] at hw ⊢
    obtain ⟨h1, h2, h3⟩ := h.put hm hi _ rfl
    exact ⟨hw, h1, h2, h3⟩
theorem res_small (h : Well m V) (hm : 1 ≤ m ∧ m ≤ 4) {c : Nat} (hc : c = 1 ∨ c = 2) : ∃ n : Nat, (reserveV (shN m) V c).2.1 = (n : Int) ∧ n ≤ 10000 := by
  rcases resV (s := shN m) h hc with e | ⟨i, q, hi, hq, hok, e⟩
  · exact ⟨0, by rw [e]; rfl, by omega⟩
  · obtain ⟨L, hL, hL0, hL4, hLb⟩ := lines_bl hc
    have h1 := place_in hLb hq
    rw [e]
    refine ⟨192 + (1024 * i + 64 * L * q), ?_, by omega⟩
    show placeI (shN m) i c q = _
    rw [place_nat _ i hL]
    show (192 : Int) + _ = _
    omega
end
/-! ### A pool that is opened again -/
section
variable {m : Nat} {V : PV} {s : HM.Shape}
theorem zL_get (m i : Nat) : (zL m).getD i 0#64 = 0#64 := by
  unfold zL; simp only [List.getD, List.getElem?_replicate]; split <;> rfl
theorem many_zero : ∀ n m, manyL (zL m) n = 0
  | 0, _ => rfl
  | n + 1, m => by unfold manyL; rw [many_zero n m, zL_get]; decide +kernel
theorem mem_all {s : HM.Shape} {T : List (BitVec 64)} {x : Nat} : ∀ {n : Nat}, x ∈ allK s T n → ∃ i q, i < n ∧ q < 16 ∧ WM.tR (T.getD i 0#64) q = true ∧ x = placeN s i (WM.classM (T.getD i 0#64)) q
  | 0, h => by cases h
  | n + 1, h => by
    rcases List.mem_append.1 (show x ∈ allK s T n ++ rowK s n (T.getD n 0#64) from h) with h | h
    · obtain ⟨i, q, h1, h2⟩ := mem_all h
      exact ⟨i, q, by omega, h2⟩
    · unfold rowK at h
      obtain ⟨q, hq, rfl⟩ := List.mem_map.1 h
      rw [WM.list_ref, List.mem_filter, List.mem_range] at hq
      exact ⟨n, q, by omega, hq.1, hq.2, rfl⟩
theorem all_small {T : List (BitVec 64)} {x : Nat} (hm : m ≤ 4) (hx : x ∈ allK (shN m) T m) : x ≤ 10000 := by
  obtain ⟨i, q, hi, hq, ht, rfl⟩ := mem_all hx
  obtain ⟨k1, k2⟩ := tR_cls hq ht
  obtain ⟨L, hL, hL0, hL4, hLb⟩ := lines_bl k1
  have h1 := place_in hLb k2
  have h2 := placeN_int (shN m) (show (0 : Int) ≤ 192 by decide) i (WM.classM (T.getD i 0#64)) q
  rw [WM.cR_class] at h2 ⊢
  rw [place_nat _ i hL] at h2
  have h3 : (shN m).data = 192 := rfl
  omega
/-- At a block that is taken: both pools tell its class, and the new one has nothing held there. -/
theorem again_at (h : Well m V) (hd : 0 ≤ s.data) {x : Nat} (hx : x ∈ allK s V.T m) : ∃ c : Nat, (c = 1 ∨ c = 2) ∧ classV s V.T V.H x = c ∧ classV s V.T (zL m) x = c ∧ ∀ D, takeV s ⟨V.T, zL m, D⟩ x = (⟨V.T, zL m, D⟩, 7) := by
  obtain ⟨i, q, hi, hq, ht, rfl⟩ := mem_all hx
  obtain ⟨k1, k2⟩ := tR_cls hq ht
  rw [← placeN_int s hd, WM.cR_class]
  have hb : WM.cR (bF V.T V.H i) = WM.cR (V.T.getD i 0#64) := by
    rcases (h.pair i hi).cT with e | e
    · omega
    · exact e.symm
  have hb0 : bF V.T (zL m) i = V.T.getD i 0#64 := by unfold bF; rw [zL_get, BitVec.or_zero]
  have f1 := findP_place (s := s) (B := bF V.T V.H) hi k1 hb k2
  have f2 := findP_place (s := s) (B := bF V.T (zL m)) hi k1 (by rw [hb0]) k2
  have hhas : WM.hasM (V.T.getD i 0#64) q = true := by rw [WM.has_ref _ _ hq]; exact ht
  refine ⟨WM.cR (V.T.getD i 0#64), k1, ?_, ?_, fun D => ?_⟩
  · unfold classV; rw [h.len, f1]; dsimp only; rw [if_pos hhas, WM.cR_class]
  · unfold classV; rw [h.len, f2]; dsimp only; rw [if_pos hhas, WM.cR_class]
  · unfold takeV; dsimp only; rw [h.len, f2]; dsimp only; rw [zL_get, WM.has_zero, if_neg (by decide)]
end
end Go.Proofs.YtcpackbljaabnaaGreatDoor
