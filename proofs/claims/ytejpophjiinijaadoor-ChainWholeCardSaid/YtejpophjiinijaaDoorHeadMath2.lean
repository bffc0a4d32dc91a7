/- Plain laws of shapes. -/
import Derived.Test.YtejpophjiinijaaDoorHeadMath
namespace Go.Proofs.YtejpophjiinijaaDoor.HM
set_option linter.unusedVariables false
set_option linter.unusedSimpArgs false
set_option maxRecDepth 100000

theorem of_slabs {n : Nat} (h : n ≤ 1024) : (of n).1.slabs = slabs n ∧ ((of n).2 = true ↔ slabs n ≠ 0) := by
  unfold of
  rw [if_neg (by omega)]
  by_cases h0 : slabs (n : Int) = 0
  · rw [if_pos h0]; exact ⟨by rw [h0]; rfl, by simp [h0]⟩
  · rw [if_neg h0]; exact ⟨rfl, by simp [h0]⟩
theorem slabs_step {n : Nat} (h : n + 1 ≤ 1024) : slabs n ≤ slabs (n + 1 : Nat) ∧ slabs (n + 1 : Nat) ≤ slabs n + 1 := by
  obtain ⟨h1, h2⟩ := slabs_spec (n := n) (by omega)
  obtain ⟨h3, h4⟩ := slabs_spec (n := n + 1) h
  generalize slabs (n : Int) = s at *
  generalize slabs ((n + 1 : Nat) : Int) = t at *
  unfold need at *
  omega
theorem slabs_more {n : Nat} (h : n + 17 ≤ 1024) (h0 : slabs n ≠ 0) : slabs n + 1 ≤ slabs (n + 17 : Nat) := by
  obtain ⟨h1, h2⟩ := slabs_spec (n := n) (by omega)
  obtain ⟨h3, h4⟩ := slabs_spec (n := n + 17) h
  generalize slabs (n : Int) = s at *
  generalize slabs ((n + 17 : Nat) : Int) = t at *
  unfold need at *
  omega
/-- The facts of a shape that HeadFits asks. -/
theorem shape_fits {n : Nat} (h : (of n).2 = true) : 8 * (slabs n : Int) ≤ (shapeOf n).data - 128 ∧ (shapeOf n).data + 1024 * slabs n ≤ 64 * n ∧ (64 * n : Int) < 64 * (2 + ((slabs n + 1 : Nat) + 7) / 8) + 1024 * (slabs n + 1 : Nat) := by
  obtain ⟨h1, h2, h3, h4⟩ := of_some h
  obtain ⟨h5, h6⟩ := slabs_spec (n := n) (by omega)
  unfold shapeOf
  dsimp only
  generalize slabs (n : Int) = s at *
  unfold need at *
  omega
theorem of_small {n : Nat} (h : (of n).2 = false) : n < 19 ∨ 1024 < n := by
  apply Classical.byContradiction
  intro h1
  have := of_nat (n := n) (by omega) (by omega)
  rw [this.1] at h; cases h
theorem ofInt_inj {a b : Nat} (ha : a ≤ 1024) (hb : b ≤ 1024) (h : BitVec.ofInt 64 (a : Int) = BitVec.ofInt 64 (b : Int)) : a = b := by
  rw [BitVec.ofInt_natCast, BitVec.ofInt_natCast] at h
  have := congrArg BitVec.toNat h
  rw [BitVec.toNat_ofNat, BitVec.toNat_ofNat, Nat.mod_eq_of_lt (by omega), Nat.mod_eq_of_lt (by omega)] at this
  exact this
theorem words_inj {a b : Nat} (ha : 19 ≤ a) (ha2 : a ≤ 1024) (hb : 19 ≤ b) (hb2 : b ≤ 1024) (h : words (shapeOf a) = words (shapeOf b)) : a = b := by
  rw [words_of ha ha2, words_of hb hb2] at h
  have := congrArg (fun l => l.getD 2 0#64) h
  exact ofInt_inj ha2 hb2 (by simpa [six, shapeOf] using this)
theorem words_same {a b : Nat} (ha : (of a).2 = true) (hb : (of b).2 = true) : words (of a).1 = words (of b).1 ↔ (of a).1 = (of b).1 := by
  obtain ⟨h1, h2, h3, _⟩ := of_some ha
  obtain ⟨h4, h5, h6, _⟩ := of_some hb
  constructor
  · rw [h3, h6]
    intro h
    rw [words_inj (by omega) (by omega) (by omega) (by omega) h]
  · intro h; rw [h]
theorem words_none {s : Shape} (h : (of s.lines).2 = false ∨ (of s.lines).1 ≠ s) : words s = [] := by
  unfold words
  rw [if_neg]
  rintro ⟨h1, h2⟩
  rcases h with h | h
  · rw [h] at h1; cases h1
  · exact h h2
theorem words_none4 : words none4 = [] := words_none (.inl (by unfold of none4 slabs; decide))
end Go.Proofs.YtejpophjiinijaaDoor.HM
