/- What Reserve, Take and Drop do to the blocks (plain). -/
import Derived.Test.YtcpackbljaabnaaGreatDoorPoolWc
namespace Go.Proofs.YtcpackbljaabnaaGreatDoor
set_option linter.unusedVariables false
set_option linter.unusedSimpArgs false
set_option maxRecDepth 100000
open Go Go.RowKit

theorem bF_H {m i : Nat} {T H : List (BitVec 64)} (hH : H.length = m) (x : BitVec 64) {j : Nat} (hj : j < m) : bF T (H.set i x) j = if j = i then T.getD i 0#64 ||| x else bF T H j := by
  unfold bF
  rw [wordsSet hH hj]
  by_cases e : j = i
  · subst e; rw [if_pos rfl, if_pos rfl]
  · rw [if_neg e, if_neg e]
theorem bF_T {m i : Nat} {T H : List (BitVec 64)} (hT : T.length = m) (x : BitVec 64) {j : Nat} (hj : j < m) : bF (T.set i x) H j = if j = i then x ||| H.getD i 0#64 else bF T H j := by
  unfold bF
  rw [wordsSet hT hj]
  by_cases e : j = i
  · subst e; rw [if_pos rfl, if_pos rfl]
  · rw [if_neg e, if_neg e]
theorem bF_TH {m i : Nat} {T H : List (BitVec 64)} (hT : T.length = m) (hH : H.length = m) (x y : BitVec 64) {j : Nat} (hj : j < m) : bF (T.set i x) (H.set i y) j = if j = i then x ||| y else bF T H j := by
  unfold bF
  rw [wordsSet hT hj, wordsSet hH hj]
  by_cases e : j = i
  · rw [if_pos e, if_pos e, if_pos e]
  · rw [if_neg e, if_neg e, if_neg e]
theorem place_inj {s : HM.Shape} {i i' q q' c c' : Nat} (hc : c = 1 ∨ c = 2) (hc' : c' = 1 ∨ c' = 2) (hq : q < WM.bl c) (hq' : q' < WM.bl c') (h : placeI s i c q = placeI s i' c' q') : i = i' ∧ (c = c' → q = q') := by
  obtain ⟨L, hL, hL0, hL4, hLb⟩ := lines_bl hc
  obtain ⟨L', hL', hL0', hL4', hLb'⟩ := lines_bl hc'
  have h1 := place_in hLb hq
  have h2 := place_in hLb' hq'
  rw [place_nat s i hL, place_nat s i' hL'] at h
  obtain ⟨r, hr⟩ : ∃ r, r = 64 * L * q := ⟨_, rfl⟩
  obtain ⟨r', hr'⟩ : ∃ r, r = 64 * L' * q' := ⟨_, rfl⟩
  rw [← hr] at h h1
  rw [← hr'] at h h2
  refine ⟨by omega, fun e => ?_⟩
  subst e
  have e2 : L = L' := by rw [hL] at hL'; omega
  subst e2
  have e3 : r = r' := by omega
  rw [hr, hr'] at e3
  exact Nat.eq_of_mul_eq_mul_left (by omega : 0 < 64 * L) e3
/-- A block of some words, its place, its size. -/
def isB (s : HM.Shape) (n : Nat) (B : Nat → BitVec 64) (y k : Int) : Prop := ∃ i q : Nat, i < n ∧ q < 16 ∧ WM.tR (B i) q = true ∧ y = placeI s i (WM.cR (B i) : Nat) q ∧ k = 64 * linesI (WM.cR (B i))
section
variable {s : HM.Shape} {n : Nat} {B B' : Nat → BitVec 64} {x y : Int}
theorem sizeF_isB {k : Int} (h : isB s n B y k) : sizeF s n B y = k ∧ 0 < k := by
  obtain ⟨i, q, hi, hq, ht, rfl, rfl⟩ := h
  have h1 := sizeF_at (s := s) hi hq ht
  have h2 := sizeF_ne (s := s) hi hq ht
  exact ⟨h1, h1 ▸ h2⟩
theorem isB_sizeF (h : 0 < sizeF s n B y) : isB s n B y (sizeF s n B y) := by
  rcases sizeF_cases (s := s) (n := n) (B := B) y with h0 | ⟨i, q, -, hi, hq, ht, hy, hk⟩
  · omega
  · exact ⟨i, q, hi, hq, ht, hy, hk⟩
theorem sizeF_nn : 0 ≤ sizeF s n B y := by
  rcases sizeF_cases (s := s) (n := n) (B := B) y with h0 | ⟨i, q, -, hi, hq, ht, hy, hk⟩
  · omega
  · have := linesI_le (WM.cR (B i)); omega
theorem sizeF_ext (h : ∀ k, isB s n B' y k ↔ isB s n B y k) : sizeF s n B' y = sizeF s n B y := by
  have n1 := sizeF_nn (s := s) (n := n) (B := B) (y := y)
  have n2 := sizeF_nn (s := s) (n := n) (B := B') (y := y)
  by_cases h1 : 0 < sizeF s n B' y
  · exact (sizeF_isB ((h _).1 (isB_sizeF h1))).1.symm
  · by_cases h2 : 0 < sizeF s n B y
    · exact (sizeF_isB ((h _).2 (isB_sizeF h2))).1
    · omega
theorem sizeF_same (h : ∀ j, j < n → B' j = B j) (y : Int) : sizeF s n B' y = sizeF s n B y := sizeF_other fun j hj _ _ => h j hj
/-- One block more. -/
theorem sizeF_more {i q c : Nat} (hi : i < n) (hc : c = 1 ∨ c = 2) (hq : q < WM.bl c) (ho : ∀ j, j < n → j ≠ i → B' j = B j) (hk : WM.cR (B i) = 0 ∨ WM.cR (B i) = c) (hc' : WM.cR (B' i) = c) (hf : WM.tR (B i) q = false)
    (ht : ∀ j, j < 16 → WM.tR (B' i) j = WM.setT (WM.tR (B i)) q true j) : sizeF s n B (placeI s i c q) = 0 ∧ sizeF s n B' (placeI s i c q) = 64 * linesI c ∧ ∀ y, y ≠ placeI s i c q → sizeF s n B' y = sizeF s n B y := by
  have hq16 : q < 16 := Nat.lt_of_lt_of_le hq (WM.bl_le c)
  refine ⟨?_, ?_, fun y hy => sizeF_ext fun k => ⟨?_, ?_⟩⟩
  · rcases sizeF_cases (s := s) (n := n) (B := B) (placeI s i c q) with h0 | ⟨i', q', -, hi', hq', ht', hy, -⟩
    · exact h0
    · obtain ⟨k1, k2⟩ := tR_cls hq' ht'
      obtain ⟨rfl, e2⟩ := place_inj hc k1 hq k2 hy
      rcases hk with hk | hk
      · omega
      · rw [e2 hk.symm] at hf; rw [hf] at ht'; cases ht'
  · have h1 : WM.tR (B' i) q = true := by rw [ht q hq16]; simp [WM.setT]
    have := sizeF_at (s := s) hi hq16 h1
    rw [hc'] at this; exact this
  · rintro ⟨i', q', hi', hq', ht', rfl, rfl⟩
    by_cases e : i' = i
    · subst e
      have h2 : q' ≠ q := fun e => hy (by rw [hc', e])
      rw [ht q' hq'] at ht'
      have h3 : WM.tR (B i') q' = true := by simpa [WM.setT, h2] using ht'
      have h4 : WM.cR (B i') = c := by
        rcases hk with hk | hk
        · have := (WM.tR_lt hq' h3).1; omega
        · exact hk
      exact ⟨i', q', hi', hq', h3, by rw [hc', h4], by rw [hc', h4]⟩
    · rw [ho i' hi' e] at ht' ⊢
      exact ⟨i', q', hi', hq', ht', rfl, rfl⟩
  · rintro ⟨i', q', hi', hq', ht', rfl, rfl⟩
    by_cases e : i' = i
    · subst e
      have h4 : WM.cR (B i') = c := by
        rcases hk with hk | hk
        · have := (WM.tR_lt hq' ht').1; omega
        · exact hk
      have h3 : WM.tR (B' i') q' = true := by rw [ht q' hq']; simp [WM.setT, ht']
      exact ⟨i', q', hi', hq', h3, by rw [hc', h4], by rw [hc', h4]⟩
    · have h3 : WM.tR (B' i') q' = true := by rw [ho i' hi' e]; exact ht'
      exact ⟨i', q', hi', hq', h3, by rw [ho i' hi' e], by rw [ho i' hi' e]⟩
/-- One block less. -/
theorem sizeF_less {i q : Nat} (hi : i < n) (hq : q < 16) (ho : ∀ j, j < n → j ≠ i → B' j = B j) (ht : WM.tR (B i) q = true) (hk : WM.cR (B' i) = 0 ∨ WM.cR (B' i) = WM.cR (B i))
    (ht' : ∀ j, j < 16 → WM.tR (B' i) j = WM.setT (WM.tR (B i)) q false j) : sizeF s n B' (placeI s i (WM.cR (B i) : Nat) q) = 0 ∧ ∀ y, y ≠ placeI s i (WM.cR (B i) : Nat) q → sizeF s n B' y = sizeF s n B y := by
  obtain ⟨k1, k2⟩ := tR_cls hq ht
  have hoff : ∀ q', q' < 16 → WM.tR (B' i) q' = true → q' ≠ q ∧ WM.tR (B i) q' = true ∧ WM.cR (B' i) = WM.cR (B i) := fun q' hq' h => by
    have h0 := (WM.tR_lt hq' h).1
    rw [ht' q' hq'] at h
    by_cases e : q' = q
    · rw [e] at h; simp [WM.setT] at h
    · refine ⟨e, by simpa [WM.setT, e] using h, by omega⟩
  refine ⟨?_, fun y hy => sizeF_ext fun k => ⟨?_, ?_⟩⟩
  · rcases sizeF_cases (s := s) (n := n) (B := B') (placeI s i (WM.cR (B i) : Nat) q) with h0 | ⟨i', q', -, hi', hq', h3, hy, -⟩
    · exact h0
    · obtain ⟨k3, k4⟩ := tR_cls hq' h3
      obtain ⟨rfl, e2⟩ := place_inj k1 k3 k2 k4 hy
      obtain ⟨h5, h6, h7⟩ := hoff q' hq' h3
      exact absurd (e2 h7.symm).symm h5
  · rintro ⟨i', q', hi', hq', h3, rfl, rfl⟩
    by_cases e : i' = i
    · subst e
      obtain ⟨h5, h6, h7⟩ := hoff q' hq' h3
      exact ⟨i', q', hi', hq', h6, by rw [h7], by rw [h7]⟩
    · rw [ho i' hi' e] at h3 ⊢
      exact ⟨i', q', hi', hq', h3, rfl, rfl⟩
  · rintro ⟨i', q', hi', hq', h3, rfl, rfl⟩
    by_cases e : i' = i
    · subst e
      have h5 : q' ≠ q := fun e => hy (by rw [e])
      have h6 : WM.tR (B' i') q' = true := by rw [ht' q' hq']; simp [WM.setT, h5, h3]
      obtain ⟨-, -, h7⟩ := hoff q' hq' h6
      exact ⟨i', q', hi', hq', h6, by rw [h7], by rw [h7]⟩
    · have h4 : WM.tR (B' i') q' = true := by rw [ho i' hi' e]; exact h3
      exact ⟨i', q', hi', hq', h4, by rw [ho i' hi' e], by rw [ho i' hi' e]⟩
end
section
variable {m : Nat} {V : PV} {s : HM.Shape}
/-- Reserve: no room, or one block more is held. -/
theorem resV (h : Well m V) {c : Nat} (hc : c = 1 ∨ c = 2) : reserveV s V c = (V, 0, 6) ∨ ∃ i q : Nat, i < m ∧ q < WM.bl c ∧ WM.takeOk (bF V.T V.H i) c q = true ∧
    reserveV s V c = (⟨V.T, V.H.set i (WM.takeW (V.H.getD i 0#64) c q), V.D⟩, placeI s i c q, 0) := by
  unfold reserveV
  split
  · exact .inl rfl
  · rename_i i hp
    obtain ⟨hi, hge⟩ := pickP_of hp
    rw [h.len] at hi
    obtain ⟨q, hq, hqb, hok, _, _⟩ := takeOk_next (x := bF V.T V.H i) (h.pair i hi).both.1 hc hge
    rw [hq, Int.toNat_natCast]
    exact .inr ⟨i, q, hi, hqb, hok, rfl⟩
/-- .. and what is at each place then. -/
theorem resV_size (h : Well m V) {c i q : Nat} (hc : c = 1 ∨ c = 2) (hi : i < m) (hq : q < WM.bl c) (hok : WM.takeOk (bF V.T V.H i) c q = true) :
    Well m ⟨V.T, V.H.set i (WM.takeW (V.H.getD i 0#64) c q), V.D⟩ ∧ WM.tR (WM.takeW (V.H.getD i 0#64) c q) q = true ∧ WM.cR (bF V.T (V.H.set i (WM.takeW (V.H.getD i 0#64) c q)) i) = c ∧
    sizeF s m (bF V.T V.H) (placeI s i c q) = 0 ∧ sizeF s m (bF V.T (V.H.set i (WM.takeW (V.H.getD i 0#64) c q))) (placeI s i c q) = 64 * linesI c ∧
    ∀ y, y ≠ placeI s i c q → sizeF s m (bF V.T (V.H.set i (WM.takeW (V.H.getD i 0#64) c q))) y = sizeF s m (bF V.T V.H) y := by
  have hpr := h.pair i hi
  have hq16 : q < 16 := Nat.lt_of_lt_of_le hq (WM.bl_le c)
  obtain ⟨r1, r2, r3⟩ := hpr.reserve (q := q) hok
  have hB' : bF V.T (V.H.set i (WM.takeW (V.H.getD i 0#64) c q)) i = WM.takeW (bF V.T V.H i) c q := by
    rw [bF_H h.lenH _ hi, if_pos rfl]; exact r3
  obtain ⟨cn, qn, e1, e2, -, -, h5, h6, h7, h8⟩ := WM.take_state hok
  obtain ⟨-, q2, e3, e4, -, -, g5, g6, g7, g8⟩ := WM.take_state r1
  obtain rfl : cn = c := by omega
  obtain rfl : qn = q := by omega
  obtain rfl : q2 = qn := by omega
  have hcR := (WM.cR_norm h7).1
  refine ⟨well_held h r2, ?_, by rw [hB', hcR], ?_⟩
  · rw [g8 _ hq16]; simp [WM.setT]
  · refine sizeF_more hi hc hq (fun j hj hne => ?_) (by omega) (by rw [hB', hcR]) h5 (fun j hj => by rw [hB', h8 j hj])
    rw [bF_H h.lenH _ hj, if_neg hne]
/-- Take of a place where a block is held. -/
theorem takV (h : Well m V) (hm : 1 ≤ m ∧ m ≤ 4) (off : Int) : takeV s V off = (V, 7) ∨ ∃ i q : Nat, findP s m (bF V.T V.H) off = some (i, q) ∧ i < m ∧ q < 16 ∧ WM.tR (V.H.getD i 0#64) q = true ∧ off = placeI s i (WM.cR (bF V.T V.H i) : Nat) q ∧
    ∃ D', takeV s V off = (⟨V.T.set i (WM.takeW (V.T.getD i 0#64) (WM.cR (V.H.getD i 0#64) : Nat) q), V.H.set i (WM.dropW (V.H.getD i 0#64) q), D'⟩, 0) ∧ D' = (runS V.D (putS ((128 + 8 * i : Nat) : Int) (WM.takeW (V.T.getD i 0#64) (WM.cR (V.H.getD i 0#64) : Nat) q))).1 := by
  unfold takeV
  rw [h.len]
  cases hf : findP s m (bF V.T V.H) off with
  | none => exact .inl rfl
  | some y =>
    obtain ⟨i, q⟩ := y
    obtain ⟨hi, hq, hx, -⟩ := findP_some hf
    rw [WM.cR_class] at hx
    dsimp only
    by_cases hh : WM.hasM (V.H.getD i 0#64) q = true
    · rw [if_pos hh, WM.cR_class]
      have ht : WM.tR (V.H.getD i 0#64) q = true := by rw [← WM.has_ref _ _ hq]; exact hh
      have hs : V.D.size = 64 * (3 + 16 * m) := by unfold NM.Dv.size; rw [h.lines]
      obtain ⟨u1, -⟩ := put_up h.ok h.up (by rw [h.lines]; omega) (o := 128 + 8 * i) (by omega) (by omega) (WM.takeW (V.T.getD i 0#64) (WM.cR (V.H.getD i 0#64) : Nat) q)
      have e1 : (putV V i (WM.takeW (V.T.getD i 0#64) (WM.cR (V.H.getD i 0#64) : Nat) q)).2 = 0 := u1
      rw [if_pos e1]
      refine .inr ⟨i, q, rfl, hi, hq, ht, hx, _, ?_, rfl⟩
      refine Prod.ext ?_ rfl
      exact congrArg (fun x => PV.mk x _ _) (if_pos u1)
    · rw [if_neg hh]; exact .inl rfl
/-- Drop of a place. -/
theorem drpV (h : Well m V) (hm : 1 ≤ m ∧ m ≤ 4) (off : Int) : (dropV s V off = (V, 7) ∧ sizeF s m (bF V.T V.H) off = 0) ∨ ∃ i q : Nat, findP s m (bF V.T V.H) off = some (i, q) ∧ i < m ∧ q < 16 ∧ off = placeI s i (WM.cR (bF V.T V.H i) : Nat) q ∧
    ((WM.tR (V.H.getD i 0#64) q = true ∧ dropV s V off = (⟨V.T, V.H.set i (WM.dropW (V.H.getD i 0#64) q), V.D⟩, 0)) ∨
     (WM.tR (V.H.getD i 0#64) q = false ∧ WM.tR (V.T.getD i 0#64) q = true ∧ dropV s V off = (⟨V.T.set i (WM.dropW (V.T.getD i 0#64) q), V.H, (runS V.D (putS ((128 + 8 * i : Nat) : Int) (WM.dropW (V.T.getD i 0#64) q))).1⟩, 0))) := by
  unfold dropV sizeF
  rw [h.len]
  cases hf : findP s m (bF V.T V.H) off with
  | none => exact .inl ⟨rfl, rfl⟩
  | some y =>
    obtain ⟨i, q⟩ := y
    obtain ⟨hi, hq, hx, -⟩ := findP_some hf
    rw [WM.cR_class] at hx
    dsimp only
    have hb := (h.pair i hi).both.2.2 q hq
    rw [WM.has_ref _ _ hq, WM.has_ref _ _ hq]
    cases hH : WM.tR (V.H.getD i 0#64) q with
    | true => rw [if_pos rfl]; exact .inr ⟨i, q, rfl, hi, hq, hx, .inl ⟨hH, rfl⟩⟩
    | false =>
      rw [if_neg (by decide)]
      cases hT : WM.tR (V.T.getD i 0#64) q with
      | true =>
        rw [if_pos rfl]
        refine .inr ⟨i, q, rfl, hi, hq, hx, .inr ⟨hH, hT, ?_⟩⟩
        have hs : V.D.size = 64 * (3 + 16 * m) := by unfold NM.Dv.size; rw [h.lines]
        obtain ⟨u1, -⟩ := put_up h.ok h.up (by rw [h.lines]; omega) (o := 128 + 8 * i) (by omega) (by omega) (WM.dropW (V.T.getD i 0#64) q)
        refine Prod.ext ?_ u1
        exact congrArg (fun x => PV.mk x _ _) (if_pos u1)
      | false =>
        rw [if_neg (by decide)]
        have e : WM.tR (bF V.T V.H i) q = false := by
          have : WM.tR (bF V.T V.H i) q = (WM.tR (V.T.getD i 0#64) q || WM.tR (V.H.getD i 0#64) q) := hb
          rw [this, hH, hT]; rfl
        exact .inl ⟨rfl, by rw [e]; rfl⟩
/-- What Take leaves at each place. -/
theorem takV_size (h : Well m V) {i q : Nat} (hi : i < m) (hq : q < 16) (ht : WM.tR (V.H.getD i 0#64) q = true) (y : Int) :
    sizeF s m (bF (V.T.set i (WM.takeW (V.T.getD i 0#64) (WM.cR (V.H.getD i 0#64) : Nat) q)) (V.H.set i (WM.dropW (V.H.getD i 0#64) q))) y = sizeF s m (bF V.T V.H) y := by
  obtain ⟨k1, k2, k3⟩ := (h.pair i hi).keep hq ht
  refine sizeF_same (fun j hj => ?_) y
  rw [bF_TH h.len h.lenH _ _ hj]
  by_cases e : j = i
  · subst e; rw [if_pos rfl]; exact k3
  · rw [if_neg e]
/-- What Drop leaves at each place. -/
theorem drpV_size (h : Well m V) (hm : 1 ≤ m ∧ m ≤ 4) (off : Int) : (dropV s V off = (V, 7) ∧ sizeF s m (bF V.T V.H) off = 0) ∨
    ((dropV s V off).2 = 0 ∧ 0 < sizeF s m (bF V.T V.H) off ∧ sizeF s m (bF (dropV s V off).1.T (dropV s V off).1.H) off = 0 ∧ ∀ y, y ≠ off → sizeF s m (bF (dropV s V off).1.T (dropV s V off).1.H) y = sizeF s m (bF V.T V.H) y) := by
  rcases drpV (s := s) h hm off with h0 | ⟨i, q, hf, hi, hq, hx, ⟨hH, he⟩ | ⟨hH, hT, he⟩⟩
  · exact .inl h0
  · right
    have hb := (h.pair i hi).both.2.2 q hq
    have ht : WM.tR (bF V.T V.H i) q = true := by
      have : WM.tR (bF V.T V.H i) q = (WM.tR (V.T.getD i 0#64) q || WM.tR (V.H.getD i 0#64) q) := hb
      rw [this, hH, Bool.or_true]
    obtain ⟨-, d2⟩ := (h.pair i hi).dropH hq hH
    have hB' : bF V.T (V.H.set i (WM.dropW (V.H.getD i 0#64) q)) i = WM.dropW (bF V.T V.H i) q := by rw [bF_H h.lenH _ hi, if_pos rfl]; exact d2
    obtain ⟨-, f2, f3⟩ := WM.drop_full hq ht
    have hl := sizeF_less (s := s) (B' := bF V.T (V.H.set i (WM.dropW (V.H.getD i 0#64) q))) hi hq (fun j hj hne => by rw [bF_H h.lenH _ hj, if_neg hne]) ht (by rw [hB']; exact f2) (fun j hj => by rw [hB']; exact f3 j hj)
    rw [he]
    refine ⟨rfl, ?_, ?_⟩
    · rw [hx]; exact sizeF_ne hi hq ht
    · rw [hx]; exact hl
  · right
    have hb := (h.pair i hi).both.2.2 q hq
    have ht : WM.tR (bF V.T V.H i) q = true := by
      have : WM.tR (bF V.T V.H i) q = (WM.tR (V.T.getD i 0#64) q || WM.tR (V.H.getD i 0#64) q) := hb
      rw [this, hT, Bool.true_or]
    obtain ⟨-, d2⟩ := (h.pair i hi).dropT hq hT
    have hB' : bF (V.T.set i (WM.dropW (V.T.getD i 0#64) q)) V.H i = WM.dropW (bF V.T V.H i) q := by rw [bF_T h.len _ hi, if_pos rfl]; exact d2
    obtain ⟨-, f2, f3⟩ := WM.drop_full hq ht
    have hl := sizeF_less (s := s) (B' := bF (V.T.set i (WM.dropW (V.T.getD i 0#64) q)) V.H) hi hq (fun j hj hne => by rw [bF_T h.len _ hj, if_neg hne]) ht (by rw [hB']; exact f2) (fun j hj => by rw [hB']; exact f3 j hj)
    rw [he]
    refine ⟨rfl, ?_, ?_⟩
    · rw [hx]; exact sizeF_ne hi hq ht
    · rw [hx]; exact hl
/-- What was just reserved can be taken. -/
theorem res_take (h : Well m V) (hm : 1 ≤ m ∧ m ≤ 4) {c : Nat} (hc : c = 1 ∨ c = 2) (h0 : (reserveV s V c).2.2 = 0) : (takeV s (reserveV s V c).1 (reserveV s V c).2.1).2 = 0 := by
  rcases resV (s := s) h hc with e | ⟨i, q, hi, hq, hok, e⟩
  · rw [e] at h0; cases h0
  · obtain ⟨w1, w2, w3, -, -, -⟩ := resV_size (s := s) h hc hi hq hok
    have hq16 : q < 16 := Nat.lt_of_lt_of_le hq (WM.bl_le c)
    rw [e]
    rcases takV (s := s) w1 hm (placeI s i c q) with h7 | ⟨i', q', -, -, -, -, -, D', h7, -⟩
    · exfalso
      unfold takeV at h7
      dsimp only at h7
      have hf := findP_place (s := s) (B := bF V.T (V.H.set i (WM.takeW (V.H.getD i 0#64) c q))) hi hc w3 hq
      rw [h.len, hf] at h7
      dsimp only at h7
      have hg : (V.H.set i (WM.takeW (V.H.getD i 0#64) c q)).getD i 0#64 = WM.takeW (V.H.getD i 0#64) c q := by rw [wordsSet h.lenH hi, if_pos rfl]
      rw [hg, WM.has_ref _ _ hq16, w2, if_pos rfl] at h7
      have hs : V.D.size = 64 * (3 + 16 * m) := by unfold NM.Dv.size; rw [h.lines]
      split at h7
      · cases congrArg Prod.snd h7
      · rename_i hne
        obtain ⟨u1, -⟩ := put_up h.ok h.up (by rw [h.lines]; omega) (o := 128 + 8 * i) (by omega) (by omega) (WM.takeW (V.T.getD i 0#64) (WM.classM (WM.takeW (V.H.getD i 0#64) c q)) q)
        exact hne u1
    · rw [h7]
end
end Go.Proofs.YtcpackbljaabnaaGreatDoor
