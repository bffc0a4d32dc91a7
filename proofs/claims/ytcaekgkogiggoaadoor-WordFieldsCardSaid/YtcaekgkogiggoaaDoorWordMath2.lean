/- The laws of bits, no program in sight. -/
import Derived.Test.YtcaekgkogiggoaaDoorWordMath
namespace Go.Proofs.YtcaekgkogiggoaaDoor.WM

theorem sizeM_min (l s : Nat) (h : l ≤ 64) : sizeM l s = min s (64 - l) := by
  unfold sizeM; rw [lowM_nat l h]; omega
theorem all_bit (i : Nat) (hi : i < 64) : (18446744073709551615#64).getLsbD i = true := by
  have : (18446744073709551615#64) = BitVec.allOnes 64 := by decide
  rw [this, BitVec.getLsbD_allOnes]; simp [hi]
theorem zero_cast : (0 : Int) = ((0 : Nat) : Int) := rfl

theorem fields_law (n v : BitVec 64) (l s : Nat) (hl : l < 64) (hs : l + s ≤ 64) :
    fieldM (withM n l s v) l s = fieldM v 0 s ∧ fieldM (withM n l s v) 0 l = fieldM n 0 l ∧ fieldM (withM n l s v) ((l + s : Nat) : Int) 64 = fieldM n ((l + s : Nat) : Int) 64 := by
  refine ⟨?_, ?_, ?_⟩
  all_goals
    apply ext; intro i hi
    rw [field_bit, field_bit, with_bit]
    simp only [show (0 : Int) = ((0 : Nat) : Int) from rfl, show (64 : Int) = ((64 : Nat) : Int) from rfl]
    simp only [sizeM_min _ _ (by omega : l ≤ 64), sizeM_min _ _ (by omega : 0 ≤ 64), sizeM_min _ _ hs, lowM_nat _ (by omega : l ≤ 64), lowM_nat _ (by omega : 0 ≤ 64), lowM_nat _ hs]
  · by_cases h : i < s
    · rw [if_pos (by omega)]
      have e : l + i - l = i := by omega
      rw [e, Nat.zero_add]
      congr 1; apply decide_eq_decide.2; omega
    · have e1 : decide (i < min s (64 - l)) = false := by simp; omega
      have e2 : decide (i < min s (64 - 0)) = false := by simp; omega
      rw [e1, e2]; simp
  · by_cases h : i < l
    · rw [if_neg (by omega)]
    · have e1 : decide (i < min l (64 - 0)) = false := by simp; omega
      rw [e1]; simp
  · by_cases h : l + s + i < 64
    · rw [if_neg (by omega)]
    · have e1 : decide (i < min 64 (64 - (l + s))) = false := by simp; omega
      rw [e1]; simp
theorem fields_law2 (n : BitVec 64) (l : Nat) (hl : l < 64) : withM (withM 0#64 0 l (fieldM n 0 l)) l 64 (fieldM n l 64) = n := by
  apply ext; intro i hi
  rw [with_bit, field_bit, with_bit, field_bit]
  simp only [show (0 : Int) = ((0 : Nat) : Int) from rfl, show (64 : Int) = ((64 : Nat) : Int) from rfl]
  simp only [sizeM_min _ _ (by omega : l ≤ 64), sizeM_min _ _ (by omega : 0 ≤ 64), lowM_nat _ (by omega : l ≤ 64), lowM_nat _ (by omega : 0 ≤ 64)]
  by_cases h : l ≤ i
  · rw [if_pos (by omega)]
    have e : l + (i - l) = i := by omega
    have e1 : decide (i - l < min 64 (64 - l)) = true := by simp; omega
    rw [e, e1]; simp
  · rw [if_neg (by omega), if_pos (by omega)]
    have e1 : decide (i - 0 < min l (64 - 0)) = true := by simp; omega
    rw [e1]; simp
theorem fields_law3 (n : BitVec 64) (l s : Nat) (hl : l < 64) (hs : l + s ≤ 64) : withM n l s (fieldM n l s) = n := by
  apply ext; intro i hi
  rw [with_bit, field_bit]
  simp only [sizeM_min _ _ (by omega : l ≤ 64), lowM_nat _ (by omega : l ≤ 64)]
  by_cases h : l ≤ i ∧ i < l + s
  · rw [if_pos (by omega)]
    have e : l + (i - l) = i := by omega
    have e1 : decide (i - l < min s (64 - l)) = true := by simp; omega
    rw [e, e1]; simp
  · rw [if_neg (by omega)]
theorem low_law (n : BitVec 64) (m : Nat) : (lowOff n m = -1 ∧ fieldM n 0 (min m 64 : Nat) = fieldM 18446744073709551615#64 0 (min m 64 : Nat)) ∨
    ∃ t : Nat, lowOff n m = t ∧ t < min m 64 ∧ fieldM n t 1 = 0#64 ∧ fieldM n 0 t = fieldM 18446744073709551615#64 0 t := by
  have hk : (min (max (m : Int) 0) 64).toNat = min m 64 := by omega
  have hall : ∀ t, t ≤ 64 → (∀ j, 0 ≤ j → j < t → n.getLsbD j = true) → fieldM n 0 (t : Nat) = fieldM 18446744073709551615#64 0 (t : Nat) := by
    intro t ht h
    apply ext; intro i hi
    rw [field_bit, field_bit]
    simp only [show (0 : Int) = ((0 : Nat) : Int) from rfl]
    simp only [sizeM_min _ _ (by omega : 0 ≤ 64), lowM_nat _ (by omega : 0 ≤ 64), Nat.zero_add]
    by_cases h2 : i < t
    · rw [h i (by omega) h2, all_bit i hi]
    · have e1 : decide (i < min t (64 - 0)) = false := by simp; omega
      rw [e1]; simp
  rcases firstOff_cases n (min m 64) 0 with ⟨h1, h2⟩ | ⟨t, h1, h2, h3, h4, h5⟩
  · refine .inl ⟨by unfold lowOff; rw [hk, h1], hall _ (by omega) (fun j h3 h4 => h2 j h3 (by omega))⟩
  · refine .inr ⟨t, by unfold lowOff; rw [hk, h1], by omega, ?_, hall t (by omega) h5⟩
    apply ext; intro i hi
    rw [field_bit]
    simp only [show (1 : Int) = ((1 : Nat) : Int) from rfl]
    rw [sizeM_min _ _ (by omega : t ≤ 64), lowM_nat _ (by omega : t ≤ 64)]
    by_cases h6 : i = 0
    · subst h6; rw [Nat.add_zero, h4]; simp
    · have e1 : decide (i < min 1 (64 - t)) = false := by simp; omega
      rw [e1]; simp
end Go.Proofs.YtcaekgkogiggoaaDoor.WM
