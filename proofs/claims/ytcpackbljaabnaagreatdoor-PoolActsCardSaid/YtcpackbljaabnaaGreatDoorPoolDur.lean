/- Take, or Drop, of a pool whose device goes down at some step, and what is opened then (plain). -/
import Derived.Test.YtcpackbljaabnaaGreatDoorPoolCut
import Derived.Test.YtcpackbljaabnaaGreatDoorPoolCount
namespace Go.Proofs.YtcpackbljaabnaaGreatDoor
set_option linter.unusedVariables false
set_option linter.unusedSimpArgs false
set_option maxRecDepth 100000
open Go Go.RowKit

section
variable {m k : Nat} {V : PV} {z : Int}
theorem good_crash (h : Good m k V) (hm : 1 ≤ m ∧ m ≤ 4) (ps : List (BitVec 8)) (hok : ((V.D.stop z).crash ps).Ok) : Good m k ⟨V.T, zL m, (V.D.stop z).crash ps⟩ := by
  have hw := h.well
  have hl := hw.lines
  have hs : V.D.size = 64 * (3 + 16 * m) := by unfold NM.Dv.size; rw [hl]
  have hl1 : (V.D.stop z).ls.length = V.D.ls.length := by rw [NM.stop_ls]
  have hs1 : (V.D.stop z).size = V.D.size := by unfold NM.Dv.size; rw [hl1]
  have hc : NM.Calm (V.D.stop z) := fun i hi => by rw [NM.stop_ln]; exact h.calm i (by rw [← hl1]; exact hi)
  have hwd : ∀ y, y < V.D.size → ((V.D.stop z).crash ps).word y = V.D.word y := fun y hy => by rw [NM.calm_word hc ps (by omega), NM.stop_word]
  exact good_of hm hw.up h.open_ hl hl1 hok hw.len (fun j hj => (hw.pair j hj).rt) (by rw [NM.stop_steps]; exact h.steps) (fun y _ hy => hwd y (by omega)) (fun j hj => by rw [hwd _ (by omega)]; exact hw.tab j hj)
/-- What Take, or Drop, and a crash leave. -/
def DurP (m k : Nat) (V : PV) (n : Nat) (R : PV × Int) : Prop := ∀ ps, (R.1.D.crash ps).Ok → ∃ T', Good m (k + 1) ⟨T', zL m, R.1.D.crash ps⟩ ∧ R.1.T.length = m ∧
  (((R.2 = 0 ∨ R.2 = 7) ∧ T' = R.1.T) ∨ (R.2 = 12 ∧ R.1.T = V.T ∧ (allK (shN m) T' m).filter (fun y => decide (y ≠ n)) = (allK (shN m) V.T m).filter (fun y => decide (y ≠ n))))
theorem dur_none (h : Good m k V) (hm : 1 ≤ m ∧ m ≤ 4) (n : Nat) (H : List (BitVec 64)) {e : Int} (he : e = 0 ∨ e = 7) : DurP m k V n (⟨V.T, H, V.D.stop z⟩, e) :=
  fun ps hok => ⟨V.T, (good_crash h hm ps hok).mono (by omega), h.well.len, .inl ⟨he, rfl⟩⟩
theorem dur_put (h : Good m k V) (hm : 1 ≤ m ∧ m ≤ 4) (hz : z ≤ 9223372036854775807) {n i q c : Nat} {x : BitVec 64} (hi : i < m) (hx : WM.rB x = true) (hn : n = placeN (shN m) i c q) (hc : c = 1 ∨ c = 2) (hq : q < WM.bl c)
    (h1 : WM.cR (V.T.getD i 0#64) = 0 ∨ WM.cR (V.T.getD i 0#64) = c) (h2 : WM.cR x = 0 ∨ WM.cR x = c) (hb : ∀ j, j < 16 → j ≠ q → WM.tR x j = WM.tR (V.T.getD i 0#64) j) (H : List (BitVec 64)) {R : PV × Int}
    (hD : R.1.D = (runS (V.D.stop z) (putS ((128 + 8 * i : Nat) : Int) x)).1) (he : R.2 = (runS (V.D.stop z) (putS ((128 + 8 * i : Nat) : Int) x)).2) (hT : R.1.T = if (runS (V.D.stop z) (putS ((128 + 8 * i : Nat) : Int) x)).2 = 0 then V.T.set i x else V.T) : DurP m k V n R := by
  intro ps hok
  rw [hD] at hok ⊢
  rw [he, hT]
  have hf := all_filter (s := shN m) (show (0 : Int) ≤ 192 by decide) h.well.len hc hq h1 h2 hb m (Nat.le_refl _)
  rw [← hn] at hf
  rcases cut_good h hm hi hx hz ps hok with ⟨e, hg⟩ | ⟨e, T', hT', hg⟩
  · rw [e, if_pos rfl]
    exact ⟨_, hg, by rw [List.length_set]; exact h.well.len, .inl ⟨.inl rfl, rfl⟩⟩
  · rw [e, if_neg (by decide)]
    refine ⟨T', hg, h.well.len, .inr ⟨rfl, rfl, ?_⟩⟩
    rcases hT' with rfl | rfl
    · rfl
    · exact hf
theorem dur_take (h : Good m k V) (hm : 1 ≤ m ∧ m ≤ 4) (hz : z ≤ 9223372036854775807) (n : Nat) : DurP m k V n (takeV (shN m) ⟨V.T, V.H, V.D.stop z⟩ (n : Int)) := by
  have hw := h.well
  unfold takeV
  dsimp only
  rw [hw.len]
  cases hf : findP (shN m) m (bF V.T V.H) (n : Int) with
  | none => exact dur_none h hm n V.H (.inr rfl)
  | some y =>
    obtain ⟨i, q⟩ := y
    obtain ⟨hi, hq, hx, -⟩ := findP_some hf
    rw [WM.cR_class, placeN_int _ (show (0 : Int) ≤ 192 by decide)] at hx
    have hn : n = placeN (shN m) i (WM.cR (bF V.T V.H i) : Nat) q := by omega
    dsimp only
    by_cases hh : WM.hasM (V.H.getD i 0#64) q = true
    · rw [if_pos hh, WM.cR_class]
      have ht : WM.tR (V.H.getD i 0#64) q = true := by rw [← WM.has_ref _ _ hq]; exact hh
      have hpr := hw.pair i hi
      obtain ⟨k1, k2, k3⟩ := hpr.keep hq ht
      obtain ⟨l1, l2⟩ := tR_cls hq ht
      have hcc : WM.cR (V.H.getD i 0#64) = WM.cR (bF V.T V.H i) := by
        rcases hpr.cH with e | e
        · omega
        · exact e
      obtain ⟨cn, q2, e1, e2, -, -, -, -, g7, g8⟩ := WM.take_state k1
      obtain rfl : cn = WM.cR (V.H.getD i 0#64) := by omega
      obtain rfl : q2 = q := by omega
      have hcw := WM.cR_norm g7
      obtain ⟨x, hxd⟩ : ∃ x, x = WM.takeW (V.T.getD i 0#64) (WM.cR (V.H.getD i 0#64) : Nat) q2 := ⟨_, rfl⟩
      rw [← hxd] at hcw g8 k2 ⊢
      have key : ∀ R : PV × Int, R.1.D = (runS (V.D.stop z) (putS ((128 + 8 * i : Nat) : Int) x)).1 → R.2 = (runS (V.D.stop z) (putS ((128 + 8 * i : Nat) : Int) x)).2 → R.1.T = (if (runS (V.D.stop z) (putS ((128 + 8 * i : Nat) : Int) x)).2 = 0 then V.T.set i x else V.T) → DurP m k V n R := fun R a b c =>
        dur_put h hm hz hi hcw.2 hn (by rw [← hcc]; exact l1) (by rw [← hcc]; exact l2) (by rcases hpr.cT with e | e
                                                                                            · exact .inl e
                                                                                            · exact .inr e) (.inr (by rw [hcw.1, hcc])) (fun j hj hne => by rw [g8 j hj]; simp [WM.setT, hne]) V.H a b c
      by_cases he : (putV ⟨V.T, V.H, V.D.stop z⟩ i x).2 = 0
      · rw [if_pos he]
        exact key _ rfl he.symm rfl
      · rw [if_neg he]
        exact key _ rfl rfl rfl
    · rw [if_neg hh]; exact dur_none h hm n V.H (.inr rfl)
theorem dur_drop (h : Good m k V) (hm : 1 ≤ m ∧ m ≤ 4) (hz : z ≤ 9223372036854775807) (n : Nat) : DurP m k V n (dropV (shN m) ⟨V.T, V.H, V.D.stop z⟩ (n : Int)) := by
  have hw := h.well
  unfold dropV
  dsimp only
  rw [hw.len]
  cases hf : findP (shN m) m (bF V.T V.H) (n : Int) with
  | none => exact dur_none h hm n V.H (.inr rfl)
  | some y =>
    obtain ⟨i, q⟩ := y
    obtain ⟨hi, hq, hx, -⟩ := findP_some hf
    rw [WM.cR_class, placeN_int _ (show (0 : Int) ≤ 192 by decide)] at hx
    have hn : n = placeN (shN m) i (WM.cR (bF V.T V.H i) : Nat) q := by omega
    dsimp only
    by_cases hh : WM.hasM (V.H.getD i 0#64) q = true
    · rw [if_pos hh]; exact dur_none h hm n _ (.inl rfl)
    · rw [if_neg hh]
      by_cases hy : WM.hasM (V.T.getD i 0#64) q = true
      · rw [if_pos hy]
        have ht : WM.tR (V.T.getD i 0#64) q = true := by rw [← WM.has_ref _ _ hq]; exact hy
        have hpr := hw.pair i hi
        obtain ⟨l1, l2⟩ := tR_cls hq ht
        have hcc : WM.cR (V.T.getD i 0#64) = WM.cR (bF V.T V.H i) := by
          rcases hpr.cT with e | e
          · omega
          · exact e
        obtain ⟨f1, f2, f3⟩ := WM.drop_full hq ht
        exact dur_put h hm hz hi f1 hn (by rw [← hcc]; exact l1) (by rw [← hcc]; exact l2) (.inr hcc) (by rw [← hcc]; exact f2) (fun j hj hne => by rw [f3 j hj]; simp [WM.setT, hne]) V.H rfl rfl rfl
      · rw [if_neg hy]; exact dur_none h hm n V.H (.inr rfl)
end
theorem putV_steps (V : PV) (i : Nat) (x : BitVec 64) : (putV V i x).1.D.steps ≤ V.D.steps + 3 := runS_steps V.D (putS ((128 + 8 * i : Nat) : Int) x)
theorem takeV_steps (s : HM.Shape) (V : PV) (off : Int) : (takeV s V off).1.D.steps ≤ V.D.steps + 3 := by
  unfold takeV
  split
  · exact Nat.le_add_right _ _
  · split
    · split
      · exact putV_steps V _ _
      · exact putV_steps V _ _
    · exact Nat.le_add_right _ _
theorem dropV_steps (s : HM.Shape) (V : PV) (off : Int) : (dropV s V off).1.D.steps ≤ V.D.steps + 3 := by
  unfold dropV
  split
  · exact Nat.le_add_right _ _
  · split
    · exact Nat.le_add_right _ _
    · split
      · exact putV_steps V _ _
      · exact Nat.le_add_right _ _
/-- The place in what was told. -/
theorem idx_of {at_ : Int} {n : Nat} (hn : 0 < n) (hn2 : n ≤ 1000) : ∃ (r : Int) (j : Nat), at_.tmod n = r ∧ -1000 ≤ r ∧ r ≤ 1000 ∧ (r + n).tmod n = (j : Int) ∧ j < n := by
  have hb : -(n : Int) < at_.tmod n ∧ at_.tmod n < n := by
    rcases Int.le_total 0 at_ with h | h
    · rw [Int.tmod_eq_emod_of_nonneg h]
      have h1 := Int.emod_nonneg at_ (show (n : Int) ≠ 0 by omega)
      have h2 := Int.emod_lt_of_pos at_ (show (0 : Int) < n by omega)
      omega
    · have h3 : at_.tmod n = -((-at_).tmod n) := by rw [Int.neg_tmod, Int.neg_neg]
      rw [h3, Int.tmod_eq_emod_of_nonneg (by omega)]
      have h1 := Int.emod_nonneg (-at_) (show (n : Int) ≠ 0 by omega)
      have h2 := Int.emod_lt_of_pos (-at_) (show (0 : Int) < n by omega)
      omega
  refine ⟨at_.tmod n, ((at_.tmod n + n).tmod n).toNat, rfl, by omega, by omega, ?_, ?_⟩
  · rw [Int.toNat_of_nonneg]
    rw [Int.tmod_eq_emod_of_nonneg (by omega)]
    exact Int.emod_nonneg _ (by omega)
  · rw [Int.tmod_eq_emod_of_nonneg (by omega)]
    have h1 := Int.emod_nonneg (at_.tmod n + n) (show (n : Int) ≠ 0 by omega)
    have h2 := Int.emod_lt_of_pos (at_.tmod n + n) (show (0 : Int) < n by omega)
    omega
end Go.Proofs.YtcpackbljaabnaaGreatDoor
